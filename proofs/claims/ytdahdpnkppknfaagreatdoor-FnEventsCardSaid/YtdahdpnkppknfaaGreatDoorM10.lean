/- Rows made and grown, structs built, bytes read as strings. No condition. -/
import Derived.Test.YtdahdpnkppknfaaGreatDoorM9
import Derived.WideKeyRuns
import Derived.MapKept
import Derived.Laws.BytesString
import Derived.Lib.AppendZerosOnto
import Derived.Lib.ConvBytes
namespace Go.Proofs.YtdahdpnkppknfaaGreatDoorM
set_option linter.unusedVariables false
set_option linter.unusedSimpArgs false
open Go.RowKit
def vplaces (P : Program) (t : Nat) : Option (List (Nat × Nat)) :=
  match P.underlying t with
  | some (.struct fs) => fs.toList.mapM fun f => (szOf P f.type).map fun n => (f.offset, n)
  | some (.array n e) => (szOf P e).map fun sz => (List.range n).map fun i => (i * sz, sz)
  | _ => none
def vfill (ps : List (Nat × Nat)) : List V → List (Nat × V) → Option (List V)
  | cs, [] => some cs
  | cs, (i, v) :: rest => match ps[i]? with
    | some (off, n) => if v.cells.length = n ∧ off + n ≤ cs.length ∧ v.cells.all V.isCell = true then vfill ps (splice cs off v.cells) rest else none
    | none => none
/-- A struct, out of its parts. -/
def vbuild (P : Program) (o : Oper) (G : List V) : Option V :=
  match o.op with
  | .build t parts => match vzero P t, vplaces P t with
    | some zs, some ps => (vfill ps zs (parts.toList.map fun p => (p.1, match vftype P t p.1 with | some ty => nrm P ty (ev G p.2) | none => ev G p.2))).map .agg
    | _, _ => none
  | _ => none
section
variable {P : Program} {R R' : Nat → Value} {N N' : Nat} {I : Nat → Prop} {w w' : World} {C : Ctx} {S S' : St} {a : Act} {F F' : Nat → List Nat} {t : Bool} {v : V} {u : Value} {f : List Nat} {sz : Nat} {els els2 : List V} {uss uss2 : List (List Value)} {ffs ffs2 : List (List Nat)}
theorem run_mapM_list {α β : Type} (f : α → Sem β) (g : α → Option β) (hf : ∀ x y, g x = some y → (f x).run P w = .ok y w) : ∀ (l : List α) (r : List β), l.mapM g = some r → (l.mapM f).run P w = .ok r w
  | [], r, h => by simp at h; subst h; rfl
  | x :: l, r, h => by
    simp only [List.mapM_cons, bind, Option.bind_eq_some_iff, pure, Option.some.injEq] at h
    obtain ⟨y, hy, ys, hys, rfl⟩ := h
    rw [List.mapM_cons]
    have h1 := hf x y hy
    have h2 := run_mapM_list f g hf l ys hys
    simp only [Sem.run_bind, h1, Result.andThen_ok, h2, Sem.run_pure]
theorem fold_set : ∀ (l : List Value) (o i : Nat) (c : Array Value), o + i + l.length ≤ c.size → ((l.zipIdx i).foldl (fun cs (x : Value × Nat) => cs.setIfInBounds (o + x.2) x.1) c) = (c.toList.take (o + i) ++ l ++ c.toList.drop (o + i + l.length)).toArray := by
  intro l
  induction l with
  | nil => intro o i c ho; simp
  | cons x l ih =>
    intro o i c ho
    simp only [List.length_cons] at ho
    rw [List.zipIdx_cons, List.foldl_cons, ih o (i + 1) _ (by simp; omega)]
    congr 1
    have hlt : o + i < c.toList.length := by simp; omega
    have e1 : (c.setIfInBounds (o + i) x).toList = c.toList.set (o + i) x := Array.toList_setIfInBounds ..
    have e2 : (c.toList.set (o + i) x).take (o + i + 1) = c.toList.take (o + i) ++ [x] := by
      rw [List.take_succ_eq_append_getElem (by simpa using hlt), List.getElem_set_self, List.take_set_of_le (Nat.le_refl _)]
    have e3 : (c.toList.set (o + i) x).drop (o + i + 1 + l.length) = c.toList.drop (o + i + 1 + l.length) := List.drop_set_of_lt (by omega)
    simp only [e1]
    rw [← Nat.add_assoc, e2, e3]
    simp [Nat.add_assoc, Nat.add_comm 1]
theorem vfill_sound {ps : List (Nat × Nat)} : ∀ (parts : List (Nat × V)) (us : List Value) (cs cs' : List V) (cells : Array Value), parts.length = us.length → (∀ (j : Nat) (p : Nat × V) (u : Value), parts[j]? = some p → us[j]? = some u → Rel P I w R N true p.2 u []) →
    RelL P I w R N true cs cells.toList [] → (∀ y ∈ cells.toList, y.oneCell' = true) → vfill ps cs parts = some cs' → ∃ cells', Instr.fill (ps.toArray[·]?) cells ((parts.map (·.1)).zip us) = some cells' ∧ RelL P I w R N true cs' cells'.toList [] ∧ ∀ y ∈ cells'.toList, y.oneCell' = true
  | [], us, cs, cs', cells, hl, _, hr, h1, h => by
    simp [vfill] at h
    subst h
    exact ⟨cells, by simp [Instr.fill], hr, h1⟩
  | (i, v) :: parts, [], cs, cs', cells, hl, _, hr, h1, h => by simp at hl
  | (i, v) :: parts, u :: us, cs, cs', cells, hl, hp, hr, h1, h => by
    unfold vfill at h
    split at h
    · rename_i off n hps
      split at h
      · rename_i hc
        obtain ⟨c1, c2, c3⟩ := hc
        obtain ⟨hv, hv1⟩ := (show Rel P I w R N true v u [] from hp 0 _ u rfl rfl).cells c3
        have hvl : u.cells.toList.length = n := by rw [← hv.len, c1]
        have hvs : u.cells.size = n := by rw [← Array.length_toList]; exact hvl
        have hcl := hr.len
        have hcs : cells.toList.length = cells.size := Array.length_toList
        have hsp := relL_splice hr hv off (by omega)
        have hone : ∀ y ∈ (splice cells.toList off u.cells.toList), y.oneCell' = true := fun y hy => by
          simp only [splice, List.mem_append] at hy
          rcases hy with (hy | hy) | hy
          · exact h1 y (List.mem_of_mem_take hy)
          · exact hv1 y hy
          · exact h1 y (List.mem_of_mem_drop hy)
        obtain ⟨cells', e1, e2, e3⟩ := vfill_sound parts us _ cs' (splice cells.toList off u.cells.toList).toArray (by simpa using hl) (fun j p x hpj hxj => hp (j + 1) p x (by simpa using hpj) (by simpa using hxj)) (by simpa using hsp) (by simpa using hone) h
        refine ⟨cells', ?_, e2, e3⟩
        simp only [List.map_cons, List.zip_cons_cons]
        unfold Instr.fill
        have hps' : ps.toArray[i]? = some (off, n) := by simpa using hps
        rw [hps']
        dsimp only
        rw [if_neg (by rw [hvs]; simp; omega)]
        have hf := fold_set u.cells.toList off 0 cells (by omega)
        rw [hvl, Nat.add_zero] at hf
        have e4 : (u.cells.zipIdx.foldl (fun cs (x : Value × Nat) => cs.setIfInBounds (off + x.2) x.1) cells) = (splice cells.toList off u.cells.toList).toArray := by
          unfold splice
          rw [hvl, ← hf, ← Array.foldl_toList, Array.toList_zipIdx]
        exact Eq.trans (congrArg (fun c => Instr.fill (ps.toArray[·]?) c ((parts.map (·.1)).zip us)) e4) e1
      · simp at h
    · simp at h
theorem fill_all {sz : Nat} : ∀ (vs : List Value) (k : Nat) (cells : Array Value), (∀ v ∈ vs, v.cells.size = sz) → cells.size = (k + vs.length) * sz →
    Instr.fill (fun i => some (i * sz, sz)) cells ((List.range' k vs.length).zip vs) = some (cells.toList.take (k * sz) ++ vs.flatMap (fun v => v.cells.toList)).toArray
  | [], k, cells, _, hs => by
    simp only [List.length_nil, List.range'_zero, List.zip_nil_left, Instr.fill, List.flatMap_nil, List.append_nil, Option.some.injEq]
    rw [List.take_of_length_le (by simp [hs])]
  | v :: vs, k, cells, hv, hs => by
    have hv1 := hv v (by simp)
    have hvl : v.cells.toList.length = sz := by simpa using hv1
    have hfold : ∀ (l : List Value) (o i : Nat) (c : Array Value), o + i + l.length ≤ c.size → ((l.zipIdx i).foldl (fun cs (x : Value × Nat) => cs.setIfInBounds (o + x.2) x.1) c) = (c.toList.take (o + i) ++ l ++ c.toList.drop (o + i + l.length)).toArray := by
      intro l
      induction l with
      | nil => intro o i c ho; simp
      | cons x l ih =>
        intro o i c ho
        simp only [List.length_cons] at ho
        rw [List.zipIdx_cons, List.foldl_cons, ih o (i + 1) _ (by simp; omega)]
        congr 1
        have hlt : o + i < c.toList.length := by simp; omega
        have e1 : (c.setIfInBounds (o + i) x).toList = c.toList.set (o + i) x := Array.toList_setIfInBounds ..
        have e2 : (c.toList.set (o + i) x).take (o + i + 1) = c.toList.take (o + i) ++ [x] := by
          rw [List.take_succ_eq_append_getElem (by simpa using hlt), List.getElem_set_self, List.take_set_of_le (Nat.le_refl _)]
        have e3 : (c.toList.set (o + i) x).drop (o + i + 1 + l.length) = c.toList.drop (o + i + 1 + l.length) := List.drop_set_of_lt (by omega)
        simp only [e1]
        rw [← Nat.add_assoc, e2, e3]
        simp [Nat.add_assoc, Nat.add_comm 1]
    have hsz : k * sz + sz ≤ cells.size := by
      rw [hs, List.length_cons, ← Nat.add_assoc, Nat.add_mul, Nat.add_mul]; omega
    rw [List.length_cons, List.range'_succ, List.zip_cons_cons]
    unfold Instr.fill
    dsimp only
    rw [if_neg (by
      rw [hv1]
      simp
      omega)]
    have hf := hfold v.cells.toList (k * sz) 0 cells (by rw [hvl]; exact hsz)
    rw [hvl, Nat.add_zero] at hf
    have e1 : (v.cells.zipIdx.foldl (fun cs (x : Value × Nat) => cs.setIfInBounds (k * sz + x.2) x.1) cells) = (cells.toList.take (k * sz) ++ v.cells.toList ++ cells.toList.drop (k * sz + sz)).toArray := by
      rw [← hf, ← Array.foldl_toList, Array.toList_zipIdx]
    refine Eq.trans (congrArg (fun c => Instr.fill (fun i => some (i * sz, sz)) c ((List.range' (k + 1) vs.length).zip vs)) e1) ?_
    rw [fill_all vs (k + 1) _ (fun x hx => hv x (by simp [hx])) (by simp [hvl]; rw [hs]; simp only [List.length_cons, Nat.add_mul, Nat.one_mul]; omega)]
    congr 1
    congr 1
    have h3 : (cells.toList.take (k * sz) ++ v.cells.toList).length = (k + 1) * sz := by simp [hvl, Nat.add_mul]; omega
    simp only [List.flatMap_cons]
    rw [← List.append_assoc, ← h3, List.take_left]
theorem fill_more {p q : Nat → Option (Nat × Nat)} (h : ∀ i x, p i = some x → q i = some x) : ∀ (l : List (Nat × Value)) (cs r : Array Value), Instr.fill p cs l = some r → Instr.fill q cs l = some r
  | [], cs, r, e => by simpa [Instr.fill] using e
  | (i, v) :: l, cs, r, e => by
    unfold Instr.fill at e ⊢
    cases hp : p i with
    | none => rw [hp] at e; cases e
    | some x =>
      rw [hp] at e
      rw [h i x hp]
      dsimp only at e ⊢
      split at e
      · cases e
      · rename_i hc
        rw [if_neg hc]
        exact fill_more h l _ r e
theorem vbuild_sound {o : Oper} {v : V} (hv : vbuild P o S.G = some v) : OpOk P o S { S with G := putV S.G o.dst v } := by
  intro I C a w ⟨R, F, h⟩
  unfold vbuild at hv
  split at hv
  · rename_i t parts hop
    split at hv
    · rename_i zs ps hz hps
      obtain ⟨cs', hfill, rfl⟩ := Option.map_eq_some_iff.1 hv
      obtain ⟨i, zv, hi, hiz, hrel, h1⟩ := vzero_spec hz
      unfold vplaces at hps
      split at hps
      · rename_i fs hu
        have hpl : ∀ w2, (fs.mapM fun f => (do pure (f.offset, ← sizeOf f.type) : Sem (Nat × Nat))).run P w2 = .ok ps.toArray w2 := fun w2 => by
          have := run_mapM_list (P := P) (w := w2) (fun (f : Field) => (do pure (f.offset, ← sizeOf f.type) : Sem (Nat × Nat))) _ (fun f y hy => by
            obtain ⟨n, hn, rfl⟩ := Option.map_eq_some_iff.1 hy
            simp only [Sem.run_bind, run_sizeOf hn, Result.andThen_ok, Sem.run_pure]) fs.toList ps hps
          rw [Array.mapM_eq_mapM_toList, Sem.run_map, this]
          rfl
        obtain ⟨cells', e1, e2, e3⟩ := vfill_sound (P := P) (R := R) (N := S.H.length) (I := I) (w := w) _ (parts.toList.map fun p => a.eval p.2) zs cs' zv.cells (by simp) (fun j p u hp hu => by
          rw [List.getElem?_map] at hp hu
          cases hj : parts.toList[j]? with
          | none => simp [hj] at hp
          | some q =>
            simp only [hj, Option.map_some, Option.some.injEq] at hp hu
            subst hp hu
            dsimp only
            split
            · exact (h.ev q.2).nrm _
            · exact h.ev q.2) (hrel I w R S.H.length true) h1 hfill
        have hrun : ∀ w2, (Instr.build t (parts.map fun (x : Nat × Operand) => (x.1, a.eval x.2))).run P w2 = .ok (.agg cells') w2 := fun w2 => by
          have hzip : (parts.map fun (x : Nat × Operand) => (x.1, a.eval x.2)).toList = ((parts.toList.map fun p => (p.1, match vftype P t p.1 with | some ty => nrm P ty (Go.Proofs.YtdahdpnkppknfaaGreatDoorM.ev S.G p.2) | none => Go.Proofs.YtdahdpnkppknfaaGreatDoorM.ev S.G p.2)).map (·.1)).zip (parts.toList.map fun p => a.eval p.2) := by
            rw [Array.toList_map]
            generalize parts.toList = l
            induction l with
            | nil => rfl
            | cons x l ih => simp [ih]
          unfold Instr.build
          simp only [zeroValue, typeInfo, Sem.run_bind, run_program, Result.andThen_ok, hi, hiz, Sem.run_pure, run_underlying hu, hpl, hzip, e1]
        refine ⟨.value (.agg cells'), .agg cells', w, by simp only [execOp, hop, Sem.run_bind, hrun, Result.andThen_ok, Sem.run_pure], .inl rfl, fun _ => .refl w, fun _ => ⟨rfl, rfl, fun w2 _ => by simp only [execOp, hop, Sem.run_bind, hrun, Result.andThen_ok, Sem.run_pure]⟩, .of (h.put o.dst ?_)⟩
        have := Rel.agg_mk e2 e3
        simpa using this
      · rename_i n e hu
        obtain ⟨sz, hsz, rfl⟩ := Option.map_eq_some_iff.1 hps
        obtain ⟨cells', e1, e2, e3⟩ := vfill_sound (P := P) (R := R) (N := S.H.length) (I := I) (w := w) _ (parts.toList.map fun p => a.eval p.2) zs cs' zv.cells (by simp) (fun j p u hp hu => by
          rw [List.getElem?_map] at hp hu
          cases hj : parts.toList[j]? with
          | none => simp [hj] at hp
          | some q =>
            simp only [hj, Option.map_some, Option.some.injEq] at hp hu
            subst hp hu
            dsimp only
            split
            · exact (h.ev q.2).nrm _
            · exact h.ev q.2) (hrel I w R S.H.length true) h1 hfill
        have e1 := fill_more (q := fun i => some (i * sz, sz)) (fun i x hx => by
          simp only [List.getElem?_toArray, List.getElem?_map] at hx
          obtain ⟨j, hj, rfl⟩ := Option.map_eq_some_iff.1 hx
          have := List.mem_range.1 (List.mem_of_getElem? hj)
          obtain ⟨hj1, hj2⟩ := List.getElem?_eq_some_iff.1 hj
          simp only [List.getElem_range] at hj2
          rw [hj2]) _ _ _ e1
        have hrun : ∀ w2, (Instr.build t (parts.map fun (x : Nat × Operand) => (x.1, a.eval x.2))).run P w2 = .ok (.agg cells') w2 := fun w2 => by
          have hzip : (parts.map fun (x : Nat × Operand) => (x.1, a.eval x.2)).toList = ((parts.toList.map fun p => (p.1, match vftype P t p.1 with | some ty => nrm P ty (Go.Proofs.YtdahdpnkppknfaaGreatDoorM.ev S.G p.2) | none => Go.Proofs.YtdahdpnkppknfaaGreatDoorM.ev S.G p.2)).map (·.1)).zip (parts.toList.map fun p => a.eval p.2) := by
            rw [Array.toList_map]
            generalize parts.toList = l
            induction l with
            | nil => rfl
            | cons x l ih => simp [ih]
          unfold Instr.build
          simp only [zeroValue, typeInfo, Sem.run_bind, run_program, Result.andThen_ok, hi, hiz, Sem.run_pure, run_underlying hu, run_sizeOf hsz, hzip, e1]
        refine ⟨.value (.agg cells'), .agg cells', w, by simp only [execOp, hop, Sem.run_bind, hrun, Result.andThen_ok, Sem.run_pure], .inl rfl, fun _ => .refl w, fun _ => ⟨rfl, rfl, fun w2 _ => by simp only [execOp, hop, Sem.run_bind, hrun, Result.andThen_ok, Sem.run_pure]⟩, .of (h.put o.dst ?_)⟩
        have := Rel.agg_mk e2 e3
        simpa using this
      · simp at hps
    · simp at hv
  · simp at hv

theorem Inv.newRow (h : Inv P I C R S a F w) (d e : Nat) {b : Blk} {r : Value} {A : Option Addr} {L cap : Nat} (hr : r = .slice A L cap) (hb : Kp C.O w w') (hw : ∀ m b, b ∈ F m → w'.heap[b]? = w.heap[b]?)
    (hk : BlkOk P I w' (updR R S.H.length r) (S.H.length + 1) S.H.length b f) (hn : f.Nodup) (hf : ∀ x, x ∈ f → ¬ C.O x ∧ ∀ m, x ∉ F m) :
    InvE P I C ⟨S.G.set d (.ow S.H.length), S.H ++ [b], S.gv⟩ (a.put (some d) r) w' := by
  have h2 := h.new hb hw hk hn (fun x hx => ⟨(hf x hx).1, fun m _ => (hf x hx).2 m⟩)
  refine .of (h2.put (some d) ?_)
  subst hr
  exact .ow S.H.length (by simp) L cap A (updR_self _ _ _)
theorem madeCells_flatten (zs : Array Value) (n : Nat) (hz : 0 < zs.size) : (madeCells zs (n * zs.size)).toList = (List.replicate n zs.toList).flatten := by
  have hall : ∀ us ∈ List.replicate n zs.toList, us.length = zs.size := fun us hus => by rw [(List.mem_replicate.1 hus).2, Array.length_toList]
  have hl : (List.replicate n zs.toList).flatten.length = n * zs.size := by rw [flatten_len hall]; simp
  apply List.ext_getElem?
  intro j
  rcases Nat.lt_or_ge j (n * zs.size) with hj | hj
  · have hm : j % zs.size < zs.size := Nat.mod_lt _ hz
    have h1 : (madeCells zs (n * zs.size)).toList[j]? = some zs[j % zs.size] := by
      have : (madeCells zs (n * zs.size)).toList[j]? = some (zs[j % zs.size]!) := by simp [madeCells, hj]
      rw [this]
      simp [hm]
    obtain ⟨us, hus, hu, _⟩ := flatten_inv hall (List.getElem?_eq_getElem (by rw [hl]; exact hj))
    have hus' := (List.mem_replicate.1 (List.mem_of_getElem? hus)).2
    subst hus'
    rw [h1, List.getElem?_eq_getElem (by rw [hl]; exact hj), ← hu]
    simp [hm]
  · rw [List.getElem?_eq_none (by simp [madeCells]; omega), List.getElem?_eq_none (by omega)]
theorem ownNew {e sz n : Nat} {cs : List Value} (hm : n ≤ 9223372036854775807) (hl : cs.length = n * sz) : Own (w.alloc (.cells cs.toArray e)) e sz (.slice (some ⟨w.heap.size, 0, none⟩) n n) n cs := by
  have := World.ownsRow_lit (base := 0) (e := e) (size := sz) w cs.toArray n (Nat.zero_le _) (by unfold maxLen; omega) (by simpa using hl)
  exact .of (by simpa using this)
theorem fb_new (b n cap : Nat) : ∀ x, x ∈ fbOf (.slice (some ⟨b, 0, none⟩) n cap) → x = b := fun x hx => by
  have := fbOf_sub _ x hx
  simp [Value.ownBlock] at this
  exact this.symm
theorem fb_nodup (v : Value) : (fbOf v).Nodup := by unfold fbOf; split <;> simp
theorem vmake_make {o : Oper} {t d : Nat} {l c : Operand} {its its' : List It} {p : List Prop} (hop : o.op = .makeSlice t l c) (hd : o.dst = some d) (hv : vmake P o S its = some (S', its', p)) (hp : conj p) : OpOk P o S S' := by
  intro I C a w ⟨R, F, h⟩
  unfold vmake at hv
  simp only [hop, hd] at hv
  have hl := h.ev l
  have hc := h.ev c
  split at hv
  · rename_i e k n k' m he hel hec
    rw [hel] at hl
    rw [hec] at hc
    split at hv
    · rename_i z by_ sz hz hb hs
      split at hv
      · rename_i hcc
        obtain ⟨hsz, hzl⟩ := hcc
        simp only [Option.some.injEq, Prod.mk.injEq] at hv
        obtain ⟨rfl, _, rfl⟩ := hv
        simp only [conj] at hp
        obtain ⟨rfl, h0, hm, hby⟩ := hp
        obtain ⟨n, rfl⟩ := Int.eq_ofNat_of_zero_le h0
        obtain ⟨i, zv, hi, hiz, hrel, h1⟩ := zeroEl_spec hz
        obtain ⟨i', hi', his⟩ := szOf_spec hs
        rw [hi] at hi'
        obtain rfl := Option.some.inj hi'
        have hbytes : i.bytes = by_ := by simpa [tbytes, hi] using hb
        have hzs : zv.cells.size = sz := by
          have h2 := (hrel I w R S.H.length false).len
          have h3 : zv.cells.toList.length = zv.cells.size := Array.length_toList
          omega
        simp only [Int.toNat_natCast] at hby ⊢
        obtain ⟨w', hrun, hown, hgr⟩ := run_make_full (P := P) w 0 t e i zv sz (velem_spec he) hi hiz his k k' n (by rw [hbytes]; exact hby) (by unfold maxLen; omega) (Nat.zero_le _)
        refine ⟨_, _, w', by simp only [execOp, hop, hl.sc_eq, hc.sc_eq, Sem.run_bind, hrun, Result.andThen_ok, Sem.run_pure]; rfl, .inl rfl, fun _ => ⟨hgr.size, fun b hb => hgr.block b hb (by simp)⟩, fun h0 => by simp [floats, hop] at h0, ?_⟩
        rw [hd]
        have hfl := madeCells_flatten zv.cells n (by omega)
        rw [hzs] at hfl
        rw [hfl] at hown
        have hels : ElsR P I w' (updR R S.H.length (.slice (some ⟨w.heap.size, 0, none⟩) n n)) (S.H.length + 1) sz (List.replicate n (tidyE P z)) (List.replicate n zv.cells.toList) (List.replicate n []) := by
          refine ⟨by simp, by simp, fun j x us f hx hus hf => ?_⟩
          have e1 := (List.mem_replicate.1 (List.mem_of_getElem? hx)).2
          have e2 := (List.mem_replicate.1 (List.mem_of_getElem? hus)).2
          have e3 := (List.mem_replicate.1 (List.mem_of_getElem? hf)).2
          subst e1 e2 e3
          exact ElR.tidy ⟨hzl, by rw [Array.length_toList]; exact hzs, h1, hrel _ _ _ _ _⟩
        have hown' : Own w' e sz (.slice (some ⟨w.heap.size, 0, none⟩) n n) (List.replicate n (tidyE P z)).length (List.replicate n zv.cells.toList).flatten := by
          rw [List.length_replicate]
          exact .of hown
        refine h.newRow d e rfl (kp_of_grown hgr h.olt (fun k hk => by simp at hk)) (fun m b hb => hgr.block b (h.fresh m b hb).2 (by simp)) (BlkOk.mk hs hsz (by rw [updR_self]; exact hown') hels) ?_ (fun b hb => ?_)
        · rw [updR_self, flatten_nils, List.append_nil]; exact fb_nodup _
        · rw [updR_self, flatten_nils, List.append_nil] at hb
          obtain rfl := fb_new _ _ _ b hb
          exact ⟨fun ho => Nat.lt_irrefl _ (h.olt _ ho), fun m hm => Nat.lt_irrefl _ (h.fresh m _ hm).2⟩
      · simp at hv
    · simp at hv
  · simp at hv
theorem vmake_build {o : Oper} {t d len : Nat} {parts : Array (Nat × Operand)} {its its' : List It} {p : List Prop} (hop : o.op = .buildSlice t len parts) (hd : o.dst = some d) (hv : vmake P o S its = some (S', its', p)) : OpOk P o S S' := by
  intro I C a w ⟨R, F, h⟩
  unfold vmake at hv
  simp only [hop, hd] at hv
  split at hv
  · rename_i e he
    split at hv
    · rename_i sz z hs hz
      split at hv
      · rename_i hcc
        obtain ⟨hidx, hsz, hlim, hall⟩ := hcc
        obtain ⟨i, zv, hi, hiz, hrel, h1⟩ := zeroEl_spec hz
        have hlen : parts.toList.length = len := by
          have := congrArg List.length hidx
          simpa using this
        simp only [List.all_eq_true, Bool.and_eq_true, decide_eq_true_eq] at hall
        generalize hus : parts.toList.map (a.eval ∘ fun x => x.2) = us
        have husl : us.length = len := by rw [← hus]; simp [hlen]
        have hpart : ∀ (j : Nat) (x : V) (u : Value), (parts.toList.map fun p => nrm P e (Go.Proofs.YtdahdpnkppknfaaGreatDoorM.ev S.G p.2))[j]? = some x → us[j]? = some u → x.cells.length = sz ∧ x.cells.all V.isCell = true ∧ Rel P I w R S.H.length true x u [] := fun j x u hx hu => by
          rw [← hus] at hu
          rw [List.getElem?_map] at hx hu
          cases hj : parts.toList[j]? with
          | none => simp [hj] at hx
          | some q =>
            simp only [hj, Option.map_some, Option.some.injEq, Function.comp] at hx hu
            subst hx hu
            have := hall q (List.mem_of_getElem? hj)
            exact ⟨this.1, List.all_eq_true.2 this.2, (h.ev q.2).nrm e⟩
        have hsize : ∀ v ∈ us, v.cells.size = sz := fun v hv => by
          obtain ⟨j, hj, rfl⟩ := List.mem_iff_getElem.1 hv
          obtain ⟨q1, q2, q3⟩ := hpart j _ _ (List.getElem?_eq_getElem (by rw [List.length_map]; omega)) (List.getElem?_eq_getElem hj)
          have h2 := (q3.cells q2).1.len
          rw [q1, Array.length_toList] at h2
          exact h2.symm
        let uss := us.map fun v => v.cells.toList
        have huss : ∀ x ∈ uss, x.length = sz := fun x hx => by
          obtain ⟨v, hv, rfl⟩ := List.mem_map.1 hx
          rw [Array.length_toList]
          exact hsize v hv
        have hussl : uss.length = len := by simp [uss, husl]
        have hcs : uss.flatten = us.flatMap fun v => v.cells.toList := by simp [uss, List.flatMap]
        have hcl2 : uss.flatten.length = len * sz := by rw [flatten_len huss, hussl]
        have hparts : (parts.map fun (x : Nat × Operand) => (x.1, a.eval x.2)).toList = (List.range' 0 us.length).zip us := by
          rw [husl, ← List.range_eq_range', ← hidx, ← hus, Array.toList_map]
          have : ∀ l : List (Nat × Operand), l.map (fun x => (x.1, a.eval x.2)) = (l.map (·.1)).zip (l.map (a.eval ∘ fun x => x.2)) := fun l => by
            induction l with
            | nil => rfl
            | cons x l ih => simp [ih]
          exact this _
        have hrun : (Instr.buildSlice t len (parts.map fun (x : Nat × Operand) => (x.1, a.eval x.2))).run P w = .ok (.slice (some ⟨w.heap.size, 0, none⟩) len len) (w.alloc (.cells uss.flatten.toArray e)) := by
          have hfill : ∀ zero : Array Value, Instr.fill (fun i => some (i * sz, sz)) ((Array.range (len * sz)).map (zero[· % zero.size]!)) ((List.range' 0 us.length).zip us) = some uss.flatten.toArray := fun zero => by
            have := fill_all us 0 ((Array.range (len * sz)).map (zero[· % zero.size]!)) hsize (by simp [husl])
            simpa only [Nat.zero_mul, List.take_zero, List.nil_append, ← hcs] using this
          unfold Instr.buildSlice
          simp only [Sem.run_bind, run_underlying (velem_spec he), Result.andThen_ok, run_sizeOf hs]
          rw [if_neg (by omega)]
          simp only [hparts]
          by_cases hz0 : len * sz = 0
          · rw [if_pos hz0]
            simp only [Sem.run_bind, Sem.run_pure, Result.andThen_ok, hfill, run_newRow]
          · rw [if_neg hz0]
            simp only [zeroValue, typeInfo, Sem.run_bind, run_program, hi, hiz, Sem.run_pure, Result.andThen_ok, hfill, run_newRow]
        have hlim2 : len ≤ 9223372036854775807 := by
          have : len ≤ len * sz := Nat.le_mul_of_pos_right _ hsz
          omega
        have hb := kp_new h.olt (.cells uss.flatten.toArray e)
        have hI : ∀ k, I k → (w.alloc (.cells uss.flatten.toArray e)).heap[k]? = w.heap[k]? := fun k hk => hb.block k (h.iin k hk)
        have hel : ∀ (j : Nat) (x : V) (us' : List Value), (parts.toList.map fun p => nrm P e (Go.Proofs.YtdahdpnkppknfaaGreatDoorM.ev S.G p.2))[j]? = some x → uss[j]? = some us' → ElR P I (w.alloc (.cells uss.flatten.toArray e)) (updR R S.H.length (.slice (some ⟨w.heap.size, 0, none⟩) len len)) (S.H.length + 1) true sz x us' [] := fun j x us' hx hus' => by
          simp only [uss, List.getElem?_map] at hus'
          cases hj : us[j]? with
          | none => simp [hj] at hus'
          | some u =>
            simp only [hj, Option.map_some, Option.some.injEq] at hus'
            subst hus'
            obtain ⟨q1, q2, q3⟩ := hpart j x u hx hj
            obtain ⟨r1, r2⟩ := q3.cells q2
            exact ⟨q1, by rw [← r1.len]; exact q1, r2, RelL.env (RelL.step r1 hI (fun k hk => by simp at hk)) (Nat.le_succ _) (updR_lt _ _ _)⟩
        have fin : ∀ (els : List V) (fo : List (Nat × V)), els.length = len → (∀ j x us', els[j]? = some x → uss[j]? = some us' → ElB P I (w.alloc (.cells uss.flatten.toArray e)) (updR R S.H.length (.slice (some ⟨w.heap.size, 0, none⟩) len len)) (S.H.length + 1) sz fo j x us' []) → ∃ nx u w', (execOp a.eval o).run P w = .ok nx w' ∧ (nx = .value u ∨ (nx = .skip ∧ u = undef)) ∧ (growsX o S = true → Grow w w') ∧ (floats P o = true → nx = .value u ∧ w' = w ∧ ∀ w2, Same w w2 → (execOp a.eval o).run P w2 = .ok (.value u) w2) ∧ InvE P I C ⟨S.G.set d (.ow S.H.length), S.H ++ [.row e els fo], S.gv⟩ (a.put o.dst u) w' := fun els fo hl hE => by
          refine ⟨_, _, w.alloc (.cells uss.flatten.toArray e), by simp only [execOp, hop, Sem.run_bind, hrun, Result.andThen_ok, Sem.run_pure]; rfl, .inl rfl, fun _ => .alloc w _, fun h0 => by simp [floats, hop] at h0, ?_⟩
          rw [hd]
          refine h.newRow d e rfl hb (fun m b hb' => Below.heap_alloc w _ b (h.fresh m b hb').2) (f := fbOf (.slice (some ⟨w.heap.size, 0, none⟩) len len) ++ (List.replicate len []).flatten) ⟨sz, uss, List.replicate len [], hs, hsz, ?_, by rw [hussl, hl], by simp [hl], fun j x us' f hx hus' hf => ?_, by rw [updR_self]⟩ ?_ (fun b hb' => ?_)
          · rw [updR_self, hl]
            exact ownNew hlim2 hcl2
          · have := (List.mem_replicate.1 (List.mem_of_getElem? hf)).2
            subst this
            exact hE j x us' hx hus'
          · rw [flatten_nils, List.append_nil]; exact fb_nodup _
          · rw [flatten_nils, List.append_nil] at hb'
            obtain rfl := fb_new _ _ _ b hb'
            exact ⟨fun ho => Nat.lt_irrefl _ (h.olt _ ho), fun m hm => Nat.lt_irrefl _ (h.fresh m _ hm).2⟩
        split at hv
        · rename_i hlf
          simp only [Option.some.injEq, Prod.mk.injEq] at hv
          obtain ⟨rfl, _, _⟩ := hv
          refine fin _ [] (by simp [hlen]) (fun j x us' hx hus' => ?_)
          rw [List.getElem?_map] at hx
          cases hx0 : (parts.toList.map fun p => nrm P e (Go.Proofs.YtdahdpnkppknfaaGreatDoorM.ev S.G p.2))[j]? with
          | none => simp [hx0] at hx
          | some x0 =>
          simp only [hx0, Option.map_some, Option.some.injEq] at hx
          subst hx
          obtain ⟨e1, e2, e3, e4⟩ := hel j x0 us' hx0 hus'
          have hlx := List.all_eq_true.1 hlf x0 (List.mem_of_getElem? hx0)
          exact ElR.tidy ⟨e1, e2, e3, e4.mono fun c u g hc _ _ hr => by
            have := List.all_eq_true.1 hlx c hc
            obtain ⟨hv, rfl⟩ := hr.vw_leaf this
            exact .leaf _ _ _ this hv⟩
        · simp only [Option.some.injEq, Prod.mk.injEq] at hv
          obtain ⟨rfl, _, _⟩ := hv
          refine fin _ _ (by simp) (fun j x us' hx hus' => ?_)
          have hj : j < len := by have := (List.getElem?_eq_some_iff.1 hx).1; simpa using this
          unfold ElB
          rw [look_numbered, if_pos (Nat.zero_le _), Nat.sub_zero]
          have hy : (parts.toList.map fun p => nrm P e (Go.Proofs.YtdahdpnkppknfaaGreatDoorM.ev S.G p.2))[j]? = some ((parts.toList.map fun p => nrm P e (Go.Proofs.YtdahdpnkppknfaaGreatDoorM.ev S.G p.2))[j]'(by rw [List.length_map]; omega)) := List.getElem?_eq_getElem _
          rw [hy]
          exact hel j _ us' hy hus'
      · simp at hv
    · simp at hv
  · simp at hv
theorem vmake_append {o : Oper} {d : Nat} {c : Call} {its its' : List It} {p : List Prop} (hop : o.op = .call c) (hd : o.dst = some d) (hv : vmake P o S its = some (S', its', p)) (hp : conj p) : OpOk P o S S' := by
  intro I C a w ⟨R, F, h⟩
  unfold vmake at hv
  simp only [hop, hd] at hv
  obtain ⟨callee, args, argTypes⟩ := c
  obtain ⟨args⟩ := args
  obtain ⟨argTypes⟩ := argTypes
  split at hv
  · rename_i x y t t' it its2 hc ha hat
    simp only at hc ha hat
    subst hc ha hat
    split at hv
    · rename_i e he
      split at hv
      · rename_i by_ z hb hz
        split at hv
        · rename_i hcc
          obtain ⟨rfl, hs, hzp⟩ := hcc
          split at hv
          · rename_i els H1 h1
            split at hv
            · rename_i els2 H2 p2 h2
              simp only [Option.some.injEq, Prod.mk.injEq] at hv
              obtain ⟨rfl, _, rfl⟩ := hv
              obtain ⟨hp2, hl1, hl2⟩ := conj_append hp
              obtain ⟨uss, ffs, ho, hel, F1, hI1, hN1, hn1, hm1, hf1⟩ := rowArg_sound h hs ((h.ev x).nrm t) h1
              have hgy : Rel P I w R ({ S with H := H1 } : St).H.length true (nrm P t (Go.Proofs.YtdahdpnkppknfaaGreatDoorM.ev S.G y)) (a.eval y) [] := by
                have := (hI1.ev y).nrm t
                exact this
              obtain ⟨ffs2, ⟨A, cy, uss2, hu2, hA2, hc2, hel2⟩, F2, hI2, hN2, hn2, hm2, hf2⟩ := srcArg_sound (S := { S with H := H1 }) hI1 hs hgy h2 hp2
              obtain ⟨i, zv, hi, hiz, hrel, hz1⟩ := zeroEl_spec hz
              obtain ⟨i', hi', his⟩ := szOf_spec hs
              rw [hi] at hi'
              obtain rfl := Option.some.inj hi'
              have hbytes : i.bytes = by_ := by simpa [tbytes, hi] using hb
              have hzs : zv.cells.size = z.cells.length := by
                have h2 := (hrel I w R S.H.length false).len
                have h3 : zv.cells.toList.length = zv.cells.size := Array.length_toList
                omega
              generalize hsz : z.cells.length = sz at *
              generalize hux : a.eval x = ux at *
              have hol := ho.lt
              obtain ⟨v', w', hrun, hown', hgr, hat⟩ := run_append_v (P := P) (ty := o.type) (velem_spec he) hi hiz his hbytes hzs hzp ho (A := A) (m := els2.length) (c := cy) (news := uss2.flatten) (by rw [flatten_len hel2.sz_all, hel2.1]) hA2 hc2 hel2.one (by unfold maxLen; omega) hl2
              refine ⟨.value v', v', w', by simp [execOp, hop, resolve, invoke, builtin, hux, hu2, hrun], .inl rfl, fun h0 => by
                have h1 : appNl o S = true := by simpa [growsX, grows, hop] using h0
                obtain ⟨e', hnl⟩ : ∃ e', Go.Proofs.YtdahdpnkppknfaaGreatDoorM.ev S.G x = .nl e' := by
                  unfold appNl at h1
                  simp only [hop] at h1
                  split at h1
                  · exact ⟨_, by assumption⟩
                  · cases h1
                have hr0 := h.ev x
                rw [hnl, hux] at hr0
                have hfb : fbOf ux = [] := by
                  cases hr0 with
                  | leaf _ _ _ _ hv0 => cases hv0 with | nl => simp [fbOf]
                exact ⟨hgr.size, fun b hb => hgr.block b hb (fun e' => by rw [hfb] at e'; cases e')⟩, fun h0 => by simp [floats, hop] at h0, ?_⟩
              rw [hd]
              -- footprints
              have hf1n : ∀ b, b ∈ fbOf ux ++ ffs.flatten → ¬ C.O b ∧ b < w.heap.size := fun b hb => by
                obtain ⟨k, hk⟩ := (hf1 b hb).1
                exact h.fresh k b hk
              have hf2n : ∀ b, b ∈ ffs2.flatten → ¬ C.O b ∧ b < w.heap.size ∧ b ∉ fbOf ux ++ ffs.flatten := fun b hb => by
                obtain ⟨k, hk⟩ := (hf2 b hb).1
                exact ⟨(hI1.fresh k b hk).1, (hI1.fresh k b hk).2, fun hb1 => (hf1 b hb1).2 k hk⟩
              have hhead : ∀ k, (fbOf ux).head? = some k → k ∈ fbOf ux := fun k hk => List.mem_of_mem_head? hk
              have hst : ∀ b, b < w.heap.size → b ∉ fbOf ux → w'.heap[b]? = w.heap[b]? := fun b hb hne => hgr.block b hb (fun e' => hne (hhead b e'.symm))
              have hbel : Kp C.O w w' := kp_of_grown hgr h.olt (fun k hk => (hf1n k (List.mem_append_left _ (hhead k hk))).1)
              have hI' : ∀ k, I k → w'.heap[k]? = w.heap[k]? := fun k hk => hbel.block k (h.iin k hk)
              obtain ⟨n1, n2, n3⟩ := List.nodup_append.1 hn1
              have hstep1 : ∀ b, b ∈ ffs.flatten → w'.heap[b]? = w.heap[b]? := fun b hb => hst b (hf1n b (List.mem_append_right _ hb)).2 (fun hb' => n3 b hb' b hb rfl)
              have hstep2 : ∀ b, b ∈ ffs2.flatten → w'.heap[b]? = w.heap[b]? := fun b hb => hst b (hf2n b hb).2.1 (fun hb' => (hf2n b hb).2.2 (List.mem_append_left _ hb'))
              have hall := (ElsR.step (R' := updR R H2.length v') (N' := H2.length + 1) hel hI' hstep1).append (ElsR.step (R' := updR R H2.length v') (N' := H2.length + 1) hel2 hI' hstep2)
              have hown2' := hown'
              obtain ⟨_, A', cap', hv', hle', hor'⟩ := hown2'
              have hown2 : Own w' e sz v' (els ++ els2).length (uss ++ uss2).flatten := by
                rw [List.length_append, List.flatten_append]
                exact hown'
              have hnew := hI2.newRow (S := { S with H := H2 }) (d := d) (e := e) (b := .row e (els ++ els2) []) (f := fbOf v' ++ (ffs ++ ffs2).flatten) hv' hbel (fun m b hb => hst b (hI2.fresh m b hb).2 (fun hb' => (hf1 b (List.mem_append_left _ hb')).2 m (hm2 m b hb))) (by
                have := BlkOk.mk (R := updR R H2.length v') (N := H2.length + 1) (n := H2.length) hs hzp (by rw [updR_self]; exact hown2) hall
                rw [updR_self] at this
                exact this) ?_ (fun b hb => ?_)
              · exact hnew
              · rw [List.flatten_append]
                refine List.nodup_append.2 ⟨fb_nodup _, List.nodup_append.2 ⟨n2, hn2, fun b hb b' hb' e' => ?_⟩, fun b hb b' hb' e' => ?_⟩
                · subst e'; exact (hf2n b hb').2.2 (List.mem_append_right _ hb)
                · subst e'
                  rcases hat b hb with hb2 | hb2
                  · rcases List.mem_append.1 hb' with hb' | hb'
                    · exact n3 b hb2 b hb' rfl
                    · exact (hf2n b hb').2.2 (List.mem_append_left _ hb2)
                  · rcases List.mem_append.1 hb' with hb' | hb'
                    · have := (hf1n b (List.mem_append_right _ hb')).2; omega
                    · have := (hf2n b hb').2.1; omega
              · rw [List.flatten_append] at hb
                rcases List.mem_append.1 hb with hb | hb
                · rcases hat b hb with hb2 | hb2
                  · exact ⟨(hf1n b (List.mem_append_left _ hb2)).1, fun m hm => (hf1 b (List.mem_append_left _ hb2)).2 m (hm2 m b hm)⟩
                  · exact ⟨fun ho => by have := h.olt _ ho; omega, fun m hm => by have := (hI2.fresh m b hm).2; omega⟩
                · rcases List.mem_append.1 hb with hb | hb
                  · exact ⟨(hf1n b (List.mem_append_right _ hb)).1, fun m hm => (hf1 b (List.mem_append_right _ hb)).2 m (hm2 m b hm)⟩
                  · exact ⟨(hf2n b hb).1, fun m hm => (hf2 b hb).2 m hm⟩
            · simp at hv
          · simp at hv
        · simp at hv
      · simp at hv
    · simp at hv
  · simp at hv
theorem vmake_sound {o : Oper} {its its' : List It} {p : List Prop} (hv : vmake P o S its = some (S', its', p)) (hp : conj p) : OpOk P o S S' := by
  cases hop : o.op with
  | makeSlice t l c =>
    cases hd : o.dst with
    | none => simp [vmake, hop, hd] at hv
    | some d => exact vmake_make hop hd hv hp
  | buildSlice t len parts =>
    cases hd : o.dst with
    | none => simp [vmake, hop, hd] at hv
    | some d => exact vmake_build hop hd hv
  | call c =>
    cases hd : o.dst with
    | none => simp [vmake, hop, hd] at hv
    | some d => exact vmake_append hop hd hv hp
  | _ => simp [vmake, hop] at hv
/-- Bytes, read as a string. -/
def bstr (ns : List Int) : ByteArray := ns.foldl (fun r n => r.push (UInt8.ofNat n.toNat)) ByteArray.empty
def vconv (P : Program) (o : Oper) (S : St) (its : List It) : Option (St × List It × List Prop) :=
  match o.op, o.dst, its with
  | .convert s d x, some t, .ints ns :: its' => match velem P s, vstr P d with
    | some e, true => match vkind P e, szOf P e with
      | some .u8, some 1 => match ev S.G x with
        | .sl false e' els => if e' = e then some ({ S with G := S.G.set t (.sc (.string (bstr ns))) }, its', [els = ns.map fun n => .sc (.int .u8 n)]) else none
        | .nl e' => if e' = e then some ({ S with G := S.G.set t (.sc (.string (bstr ns))) }, its', [ns = []]) else none
        | .ow n => match S.H[n]? with
          | some (.row e' els []) => if e' = e then some ({ S with G := S.G.set t (.sc (.string (bstr ns))) }, its', [els = ns.map fun n => .sc (.int .u8 n)]) else none
          | _ => none
        | .sb n sz lo len => match S.H[n]? with
          | some (.row e' els []) => if e' = e ∧ sz = 1 then some ({ S with G := S.G.set t (.sc (.string (bstr ns))) }, its', [(els.drop lo).take len = ns.map fun n => .sc (.int .u8 n)]) else none
          | _ => none
        | _ => none
      | _, _ => none
    | _, _ => none
  | _, _, _ => none
theorem ints_src {ns : List Int} {uss : List (List Value)} {ffs : List (List Nat)} (h : ElsR P I w R N 1 (ns.map fun n => V.sc (.int .u8 n)) uss ffs) : uss.flatten = ns.map (Value.int .u8) := by
  obtain ⟨h1, h2, h3⟩ := h
  have : uss = ns.map fun n => [Value.int .u8 n] := by
    apply List.ext_getElem?
    intro j
    rcases Nat.lt_or_ge j ns.length with hj | hj
    · have hl : j < uss.length := by simpa [h1] using hj
      have hl2 : j < ffs.length := by simpa [h2] using hj
      obtain ⟨e1, e2, e3, e4⟩ := h3 j (.sc (.int .u8 ns[j])) uss[j] ffs[j] (by simp [hj]) (List.getElem?_eq_getElem hl) (List.getElem?_eq_getElem hl2)
      obtain ⟨u, us', g, g', hu, _, hr, hr2⟩ := e4.uncons
      obtain ⟨rfl, _⟩ := hr2.nil_inv
      rw [List.getElem?_eq_getElem hl, hu, hr.sc_eq]
      simp [hj]
    · rw [List.getElem?_eq_none (by simpa [h1] using hj), List.getElem?_eq_none (by simpa using hj)]
  rw [this]
  clear h1 h2 h3 this
  induction ns with
  | nil => rfl
  | cons n ns ih => simpa using ih
theorem vconv_sound {o : Oper} {its its' : List It} {p : List Prop} (hv : vconv P o S its = some (S', its', p)) (hp : conj p) : OpOk P o S S' := by
  intro I C a w ⟨R, F, h⟩
  unfold vconv at hv
  split at hv
  · rename_i s d x t ns its2 hop hd
    split at hv
    · rename_i e he hs
      split at hv
      · rename_i hk hsz
        have hx := h.ev x
        have fin : (∃ A c uss ffs, a.eval x = .slice A ns.length c ∧ (A = none → ns.length = 0) ∧ (∀ ad, A = some ad → ∀ j x, uss.flatten[j]? = some x → w.cell? (ad.add j) = some x) ∧ ElsR P I w R S.H.length 1 (ns.map fun n => V.sc (.int .u8 n)) uss ffs) →
            ∃ nx u w', (execOp a.eval o).run P w = .ok nx w' ∧ (nx = .value u ∨ (nx = .skip ∧ u = undef)) ∧ (growsX o S = true → Grow w w') ∧ (floats P o = true → nx = .value u ∧ w' = w ∧ ∀ w2, Same w w2 → (execOp a.eval o).run P w2 = .ok (.value u) w2) ∧ InvE P I C { S with G := S.G.set t (.sc (.string (bstr ns))) } (a.put o.dst u) w' := fun ⟨A, c, uss, ffs, hu, hA, hc, hel⟩ => by
          have hus := ints_src hel
          have hrun : ∀ w2, Same w w2 → (execOp a.eval o).run P w2 = .ok (.value (.string (bstr ns))) w2 := fun w2 hSm => by
            have hcv : (convert s d (a.eval x)).run P w2 = .ok (.string (bstr ns)) w2 := by
              rw [hu, run_convert_bytes_string w2 s d e A _ c (velem_spec he) (vkind_spec hk) (vstr_spec hs)]
              cases A with
              | none =>
                have : ns = [] := List.eq_nil_of_length_eq_zero (hA rfl)
                subst this
                simp [Conv.bytesToString, bstr]
              | some ad =>
                have hl := run_loadCells_list (P := P) w2 ad uss.flatten (fun j v hj => hSm.cell (hc ad rfl j v hj))
                rw [hus] at hl
                simp only [List.length_map] at hl
                exact run_bytesToString w2 ad ns.length c ns hl
            simp only [execOp, hop, Sem.run_bind, hcv, Result.andThen_ok, Sem.run_pure]
          refine ⟨_, _, w, hrun w (.refl w), .inl rfl, fun _ => .refl w, fun _ => ⟨rfl, rfl, hrun⟩, ?_⟩
          rw [hd]
          exact .of (h.put (some t) (.leaf _ _ _ rfl (.sc _ rfl)))
        split at hv
        · rename_i e' els hex
          rw [hex] at hx
          split at hv
          · rename_i hee
            subst hee
            simp only [Option.some.injEq, Prod.mk.injEq] at hv
            obtain ⟨rfl, _, rfl⟩ := hv
            have hp : els = ns.map fun n => V.sc (.int .u8 n) := hp
            subst hp
            refine fin ?_
            obtain ⟨hx, _⟩ := hx.vw_leaf rfl
            obtain ⟨A, c, hu⟩ : ∃ A c, a.eval x = .slice A (ns.map fun n => V.sc (.int .u8 n)).length c := by
              generalize a.eval x = u at hx
              cases hx; exact ⟨_, _, rfl⟩
            rw [hu] at hx
            obtain ⟨uss, q1, q2, q3⟩ := vw_elsR (R := R) (N := S.H.length) hx hsz
            have hid : (ns.map fun n => V.sc (.int .u8 n)).map V.vw = ns.map fun n => V.sc (.int .u8 n) := by simp [V.vw, Function.comp_def]
            rw [hid] at q3
            exact ⟨A, c, uss, _, by simpa using hu, by simpa using q1, q2, q3⟩
          · simp at hv
        · rename_i e' hex
          rw [hex] at hx
          split at hv
          · simp only [Option.some.injEq, Prod.mk.injEq] at hv
            obtain ⟨rfl, _, rfl⟩ := hv
            have hp : ns = [] := hp
            subst hp
            refine fin ?_
            obtain ⟨hx, _⟩ := hx.vw_leaf rfl
            generalize a.eval x = u at hx
            cases hx with
            | nl _ A => exact ⟨A, 0, [], [], rfl, fun _ => rfl, fun ad had j x hj => by simp at hj, .nil⟩
          · simp at hv
        · rename_i n hex
          rw [hex] at hx
          split at hv
          · rename_i e' els hg
            split at hv
            · rename_i hee
              subst hee
              simp only [Option.some.injEq, Prod.mk.injEq] at hv
              obtain ⟨rfl, _, rfl⟩ := hv
              have hp : els = ns.map fun n => V.sc (.int .u8 n) := hp
              subst hp
              refine fin ?_
              have hu : a.eval x = R n := by
                generalize a.eval x = u at hx
                cases hx with
                | leaf _ _ _ hb => simp [V.leafB] at hb
                | ow _ _ L c A hR' => exact hR'.symm
              obtain ⟨uss, ffs, A, c, hz, ho, hel, hF, hl, hu2, hA, hc, _⟩ := own_src (lo := 0) (h.blk n _ hg) hsz (.inl ⟨rfl, rfl, hu⟩)
              have : (uss.drop 0).take (ns.map fun n => V.sc (.int .u8 n)).length = uss := by rw [List.drop_zero, ← hel.1, List.take_length]
              rw [this] at hc
              exact ⟨A, c, uss, ffs, by simpa using hu2, by simpa using hA, hc, hel⟩
            · simp at hv
          · simp at hv
        · rename_i n sz lo len hex
          rw [hex] at hx
          split at hv
          · rename_i e' els hg
            split at hv
            · rename_i hee
              obtain ⟨hee, rfl⟩ := hee
              subst hee
              simp only [Option.some.injEq, Prod.mk.injEq] at hv
              obtain ⟨rfl, _, rfl⟩ := hv
              have hp : (els.drop lo).take len = ns.map fun n => V.sc (.int .u8 n) := hp
              refine fin ?_
              obtain ⟨uss, ffs, A, c, hz, ho, hel, hF, hl, hu2, hA, hc, _⟩ := own_src (lo := lo) (len := len) (h.blk n _ hg) hsz (.inr hx)
              have hcut := hel.cut lo len
              rw [hp] at hcut
              have hll : ns.length = len := by
                have := congrArg List.length hp
                simp at this; omega
              exact ⟨A, c, _, _, by rw [hll]; exact hu2, by rw [hll]; exact hA, hc, hcut⟩
            · simp at hv
          · simp at hv
        · simp at hv
      · simp at hv
    · simp at hv
  · simp at hv
end
/-- A nil slice, and so many zero values behind it. -/
def vgrow (P : Program) (o : Oper) (S : St) (its : List It) : Option (St × List It × List Prop) :=
  match o.op, o.dst with
  | .call c, some d => match c.callee, c.args.toList, c.argTypes.toList with
    | .builtin .append, [x, y], [t, tn] => match velem P t, vkind P tn, nrm P t (ev S.G x), ev S.G y with
      | some e, some _, .nl e', .sc (.int _ n) => match zeroEl P e, tbytes P e, szOf P e with
        | some z, some by_, some sz => if 0 < sz ∧ z.cells.length = sz ∧ e' = e then some (⟨S.G.set d (.ow S.H.length), S.H ++ [.row e (List.replicate n.toNat (tidyE P z)) []], S.gv⟩, its, [0 < n, n ≤ 9223372036854775807, n.toNat * by_ ≤ 140737488355328]) else none
        | _, _, _ => none
      | _, _, _, _ => none
    | _, _, _ => none
  | _, _ => none
section
variable {P : Program} {S S' : St}
theorem vgrow_sound {o : Oper} {its its' : List It} {p : List Prop} (hv : vgrow P o S its = some (S', its', p)) (hp : conj p) : OpOk P o S S' := by
  intro I C a w ⟨R, F, h⟩
  unfold vgrow at hv
  split at hv
  · rename_i c d hop hd
    obtain ⟨callee, ⟨args⟩, ⟨argTypes⟩⟩ := c
    split at hv
    · rename_i x y t tn hcal ha ht
      simp only at hcal ha ht
      subst hcal ha ht
      split at hv
      · rename_i e0 kn e kq n he hk hx hy
        have hgx := (h.ev x).nrm t
        rw [hx] at hgx
        have hgy := h.ev y
        rw [hy] at hgy
        have hgy := hgy.sc_eq
        obtain ⟨hgx, _⟩ := hgx.vw_leaf rfl
        generalize hux : a.eval x = ux at hgx
        split at hv
        · rename_i z by_ sz hz hb hs
          split at hv
          · rename_i hcc
            obtain ⟨hsz, hzl, rfl⟩ := hcc
            simp only [Option.some.injEq, Prod.mk.injEq] at hv
            obtain ⟨rfl, _, rfl⟩ := hv
            simp only [conj] at hp
            obtain ⟨h0, hm, hby⟩ := hp
            obtain ⟨n, rfl⟩ := Int.eq_ofNat_of_zero_le (Int.le_of_lt h0)
            obtain ⟨i, zv, hi, hiz, hrel, h1⟩ := zeroEl_spec hz
            obtain ⟨i', hi', his⟩ := szOf_spec hs
            rw [hi] at hi'
            obtain rfl := Option.some.inj hi'
            have hbytes : i.bytes = by_ := by simpa [tbytes, hi] using hb
            have hzs : zv.cells.size = sz := by
              have h2 := (hrel I w R S.H.length false).len
              have h3 : zv.cells.toList.length = zv.cells.size := Array.length_toList
              omega
            simp only [Int.toNat_natCast] at hby ⊢
            have h0n : 0 < n := by omega
            subst hbytes
            cases hgx with
            | nl _ A =>
              have hold : (Builtin.firstCells i.size 0 (.slice A 0 0)).run P w.drew = .ok ([] : List Value).toArray w.drew := by
                cases A <;> simp [Builtin.firstCells, loadCells, loadCellsFrom]
              have hr := Go.Lib.run_append_grow_zeros (P := P) w t tn o.type e i zv kq kn (velem_spec he) (vkind_spec hk) hi hiz A 0 0 [] hold n h0n (by omega) (by omega) (by omega) (by omega) (growslice_fits (by omega) (by simpa using hby))
              have hge := grownCap_ge w (0 + n) 0 e
              have hcm : grownCap w (0 + n) 0 e ≤ maxLen := grownCap_le_maxLen w (0 + n) 0 e (by unfold maxLen; omega)
              generalize hG : grownCap w (0 + n) 0 e = G at *
              simp only [Nat.zero_add, Array.empty_append] at hr
              have hfl : (Builtin.zeroCells zv.cells n).toList = (List.replicate n zv.cells.toList).flatten := madeCells_flatten zv.cells n (by omega)
              have hfll : (List.replicate n zv.cells.toList).flatten.length = n * sz := by rw [← hfl, Array.length_toList, size_zeroCells, hzs]
              have hw' : ∀ j, j < w.heap.size → (w.drew.alloc (.cells (Builtin.zeroCells zv.cells n ++ Builtin.zeroCells zv.cells (G - n)) e)).heap[j]? = w.heap[j]? := fun j hj => heap_alloc_old w.drew _ (by simpa using hj)
              have hgr : w.grownBy (w.drew.alloc (.cells (Builtin.zeroCells zv.cells n ++ Builtin.zeroCells zv.cells (G - n)) e)) none := ⟨rfl, rfl, rfl, by simp, fun k hk _ => hw' k hk⟩
              refine ⟨.value (.slice (some ⟨w.heap.size, 0, none⟩) n G), .slice (some ⟨w.heap.size, 0, none⟩) n G, w.drew.alloc (.cells (Builtin.zeroCells zv.cells n ++ Builtin.zeroCells zv.cells (G - n)) e), by simp [execOp, hop, resolve, invoke, builtin, hux, hgy, hr], .inl rfl, fun _ => Grow.alloc w.drew _, fun h0 => by simp [floats, hop] at h0, ?_⟩
              rw [hd]
              have hels : ElsR P I (w.drew.alloc (.cells (Builtin.zeroCells zv.cells n ++ Builtin.zeroCells zv.cells (G - n)) e)) (updR R S.H.length (.slice (some ⟨w.heap.size, 0, none⟩) n G)) (S.H.length + 1) sz (List.replicate n (tidyE P z)) (List.replicate n zv.cells.toList) (List.replicate n []) := by
                refine ⟨by simp, by simp, fun j x us f hx hus hf => ?_⟩
                have e1 := (List.mem_replicate.1 (List.mem_of_getElem? hx)).2
                have e2 := (List.mem_replicate.1 (List.mem_of_getElem? hus)).2
                have e3 := (List.mem_replicate.1 (List.mem_of_getElem? hf)).2
                subst e1 e2 e3
                exact ElR.tidy ⟨hzl, by rw [Array.length_toList]; exact hzs, h1, hrel _ _ _ _ _⟩
              have hown : Own (w.drew.alloc (.cells (Builtin.zeroCells zv.cells n ++ Builtin.zeroCells zv.cells (G - n)) e)) e sz (.slice (some ⟨w.heap.size, 0, none⟩) n G) (List.replicate n (tidyE P z)).length (List.replicate n zv.cells.toList).flatten := by
                rw [List.length_replicate]
                refine ⟨hfll, _, _, rfl, by omega, .inr ⟨_, 0, _, rfl, .of (heap_alloc_new w.drew _), hcm, ?_, ?_⟩⟩
                · simp only [Array.size_append, size_zeroCells, hzs, Nat.zero_add, ← Nat.add_mul]
                  congr 1
                  omega
                · simp only [Array.toList_append, List.drop_zero, hfl, ← hfll]
                  exact List.take_left
              have hh := h.newRow d e (A := some ⟨w.heap.size, 0, none⟩) (L := n) (cap := G) rfl (kp_of_grown hgr h.olt (fun k hk => by simp at hk)) (fun m b hb => hgr.block b (h.fresh m b hb).2 (by simp)) (BlkOk.mk hs hsz (by rw [updR_self]; exact hown) hels) (by rw [updR_self, flatten_nils, List.append_nil]; exact fb_nodup _) (fun b hb => by
                rw [updR_self, flatten_nils, List.append_nil] at hb
                obtain rfl := fb_new _ _ _ b hb
                exact ⟨fun ho => Nat.lt_irrefl _ (h.olt _ ho), fun m hm => Nat.lt_irrefl _ (h.fresh m _ hm).2⟩)
              simpa using hh
          · simp at hv
        · simp at hv
      · simp at hv
    · simp at hv
  · simp at hv
end
/-- A part of a row is cleared. -/
def vclear (P : Program) (o : Oper) (S : St) (its : List It) : Option (St × List It × List Prop) :=
  match o.op with
  | .call c => match c.callee, c.args.toList, c.argTypes.toList with
    | .builtin .clear, [x], [t] => match velem P t, ev S.G x with
      | some e, .sb n sz lo len => match homeRow S.H n, zeroEl P e with
        | some (e', els, []), some z => if e' = e ∧ szOf P e' = some sz ∧ z.cells.length = sz ∧ 0 < sz then
            some ({ S with G := putV S.G o.dst (.tup []), H := S.H.set n (.row e' (els.take lo ++ (List.replicate len (tidyE P z) ++ els.drop (lo + len))) []) }, its, []) else none
        | _, _ => none
      | _, _ => none
    | _, _, _ => none
  | _ => none
section
variable {P : Program} {S S' : St}
theorem vclear_sound {o : Oper} {its its' : List It} {p : List Prop} (hv : vclear P o S its = some (S', its', p)) : OpOk P o S S' := by
  intro I C a w ⟨R, F, h⟩
  unfold vclear at hv
  split at hv
  · rename_i c hop
    obtain ⟨callee, ⟨args⟩, ⟨argTypes⟩⟩ := c
    split at hv
    · rename_i x t hcal ha ht
      simp only at hcal ha ht
      subst hcal ha ht
      split at hv
      · rename_i e0 n sz lo len he hx
        have hgx := h.ev x
        rw [hx] at hgx
        split at hv
        · rename_i e els z hrow hz
          split at hv
          · rename_i hcc
            obtain ⟨rfl, hs, hzl, hsz⟩ := hcc
            simp only [Option.some.injEq, Prod.mk.injEq] at hv
            obtain ⟨rfl, _, _⟩ := hv
            obtain ⟨hg, hn, hblk⟩ := h.row hrow
            obtain ⟨uss, ffs, _, ho, hel, hF⟩ := hblk.elsOf hs
            obtain ⟨i, zv, hi, hiz, hrel, h1⟩ := zeroEl_spec hz
            have hzs : zv.cells.size = sz := by
              have h2 := (hrel I w R S.H.length false).len
              have h3 : zv.cells.toList.length = zv.cells.size := Array.length_toList
              omega
            have hzero : ∀ w2, (zeroValue e).run P w2 = .ok zv w2 := fun w2 => by simp [zeroValue, typeInfo, hi, hiz]
            have hput : ∀ {S2 : St} {F2 : Nat → List Nat} {w2 : World}, Inv P I C R S2 a F2 w2 → InvE P I C { S2 with G := putV S2.G o.dst (.tup []) } (a.put o.dst (.tuple #[])) w2 := fun h2 => .of (h2.put o.dst (Rel.tup_mk .nil))
            generalize hux : a.eval x = ux at hgx
            cases hgx with
            | leaf _ _ _ hb => simp [V.leafB] at hb
            | sb _ _ _ _ A A' L cap hn' hR hl hA =>
              have hL : L = els.length := by
                obtain ⟨_, A2, cap2, hR2, _⟩ := ho
                rw [hR] at hR2
                simp only [Value.slice.injEq] at hR2
                exact hR2.2.1
              subst hL
              rcases Nat.eq_zero_or_pos len with h0 | h0
              · subst h0
                refine ⟨.value (.tuple #[]), .tuple #[], w, ?_, .inl rfl, fun h0 => .refl w, fun h0 => by simp [floats, hop] at h0, ?_⟩
                · cases A' <;> simp [execOp, hop, resolve, invoke, builtin, hux, Builtin.clear_, run_underlying (velem_spec he)]
                · have e1 : els.take lo ++ (List.replicate 0 (tidyE P z) ++ els.drop (lo + 0)) = els := by simp
                  rw [e1]
                  have e2 : S.H.set n (.row e els []) = S.H := by
                    apply List.ext_getElem?
                    intro j
                    rw [List.getElem?_set]
                    by_cases hj : n = j
                    · subst hj; rw [if_pos rfl, if_pos hn, hg]
                    · rw [if_neg hj]
                  rw [e2]
                  exact hput h
              · obtain ⟨g, o2, cap2, cur, hR2, hcur, q1, q2, q3, q4, q5⟩ := ho.open (by omega)
                rw [hR] at hR2
                simp only [Value.slice.injEq, true_and] at hR2
                obtain ⟨rfl, rfl⟩ := hR2
                obtain ⟨g', o3, e1, rfl⟩ := hA (by omega)
                simp only [Option.some.injEq, Addr.mk.injEq, and_true] at e1
                obtain ⟨rfl, rfl⟩ := e1
                have hm : ∀ k, k ≤ cap → k * sz ≤ cap * sz := fun k hk => Nat.mul_le_mul_right _ hk
                have hfl : (Builtin.zeroCells zv.cells len).toList = (List.replicate len zv.cells.toList).flatten := madeCells_flatten zv.cells len (by omega)
                have hfll : (List.replicate len zv.cells.toList).flatten.length = len * sz := by rw [← hfl, Array.length_toList, size_zeroCells, hzs]
                generalize hvs : (List.replicate len zv.cells.toList).flatten = vs at *
                have hcl : cur.toList.length = o2 + cap * sz := by rw [Array.length_toList]; exact q4
                have hb1 : lo * sz + len * sz ≤ els.length * sz := by rw [← Nat.add_mul]; exact Nat.mul_le_mul_right _ hl
                have hb2 := hm _ q1
                have h1v : ∀ v ∈ vs, v.oneCell' = true := fun v hv => by
                  rw [← hvs] at hv
                  obtain ⟨l, hl1, hl2⟩ := List.mem_flatten.1 hv
                  rw [(List.mem_replicate.1 hl1).2] at hl2
                  exact h1 v hl2
                have hst := Lies.run_store P g (o2 + lo * sz) e vs 0 cur w hcur (by rw [hfll]; omega) h1v
                simp only [Nat.add_zero] at hst
                obtain ⟨len', rfl⟩ : ∃ k, len = k + 1 := ⟨len - 1, by omega⟩
                refine ⟨.value (.tuple #[]), .tuple #[], w.setRow g (splice cur.toList (o2 + lo * sz) vs).toArray, by simp [execOp, hop, resolve, invoke, builtin, hux, Builtin.clear_, run_underlying (velem_spec he), hzero, hfl, hst, splice], .inl rfl, fun h0 => by simp [growsX, appNl, grows, hop] at h0, fun h0 => by simp [floats, hop] at h0, ?_⟩
                have hfb : fbOf (R n) = [g] := by
                  rw [hR]
                  cases cap with
                  | zero => omega
                  | succ cap => rfl
                rw [hfb] at hF
                have hnd := h.nodup n
                rw [hF] at hnd
                have hgF : g ∈ F n := by rw [hF]; simp
                have hgn : ∀ b, b ∈ ffs.flatten → b ≠ g := fun b hb e => by
                  subst e
                  exact (List.nodup_cons.1 (by simpa using hnd)).1 hb
                have hgo := h.fresh n g hgF
                have hbk : Kp C.O w (w.setRow g (splice cur.toList (o2 + lo * sz) vs).toArray) := kp_row hgo.1 _
                have hoth : ∀ b, b ≠ g → (w.setRow g (splice cur.toList (o2 + lo * sz) vs).toArray).heap[b]? = w.heap[b]? := fun b hb => setRow_other w g b _ hb
                have hIst : ∀ b, I b → (w.setRow g (splice cur.toList (o2 + lo * sz) vs).toArray).heap[b]? = w.heap[b]? := fun b hb' => hbk.block b (h.iin b hb')
                have hlu := hel.1
                have hlf := hel.2.1
                have hel' : ElsR P I w R S.H.length sz (els.take lo ++ (List.replicate (len' + 1) (tidyE P z) ++ els.drop (lo + (len' + 1)))) (uss.take lo ++ (List.replicate (len' + 1) zv.cells.toList ++ uss.drop (lo + (len' + 1)))) (ffs.take lo ++ (List.replicate (len' + 1) [] ++ ffs.drop (lo + (len' + 1)))) := by
                  have c1 := hel.cut 0 lo
                  have c3 := hel.cut (lo + (len' + 1)) els.length
                  simp only [List.drop_zero] at c1
                  have t3 : ∀ {α : Type} (l : List α), l.length = els.length → (l.drop (lo + (len' + 1))).take els.length = l.drop (lo + (len' + 1)) := fun l hl => List.take_of_length_le (by simp; omega)
                  rw [t3 _ rfl, t3 _ hel.1, t3 _ hel.2.1] at c3
                  refine c1.append (.append ⟨by simp, by simp, fun j x us f hx hus hf => ?_⟩ c3)
                  have e1 := (List.mem_replicate.1 (List.mem_of_getElem? hx)).2
                  have e2 := (List.mem_replicate.1 (List.mem_of_getElem? hus)).2
                  have e3 := (List.mem_replicate.1 (List.mem_of_getElem? hf)).2
                  subst e1 e2 e3
                  exact ElR.tidy ⟨hzl, by rw [Array.length_toList]; exact hzs, h1, hrel _ _ _ _ _⟩
                have hsub : (ffs.take lo ++ (List.replicate (len' + 1) [] ++ ffs.drop (lo + (len' + 1)))).flatten.Sublist ffs.flatten := by
                  have hsplit : ffs.flatten = (ffs.take lo).flatten ++ (((ffs.drop lo).take (len' + 1)).flatten ++ (ffs.drop (lo + (len' + 1))).flatten) := by
                    rw [← List.flatten_append, ← List.flatten_append, ← List.drop_drop, List.take_append_drop, List.take_append_drop]
                  rw [hsplit, List.flatten_append, List.flatten_append, flatten_nils, List.nil_append]
                  exact (List.Sublist.refl _).append (List.sublist_append_right _ _)
                have hel2 : ElsR P I (w.setRow g (splice cur.toList (o2 + lo * sz) vs).toArray) R S.H.length sz (els.take lo ++ (List.replicate (len' + 1) (tidyE P z) ++ els.drop (lo + (len' + 1)))) (uss.take lo ++ (List.replicate (len' + 1) zv.cells.toList ++ uss.drop (lo + (len' + 1)))) (ffs.take lo ++ (List.replicate (len' + 1) [] ++ ffs.drop (lo + (len' + 1)))) :=
                  ⟨hel'.1, hel'.2.1, fun j x us f hx hus hf => (hel'.2.2 j x us f hx hus hf).step hIst (fun b hb => hoth b (hgn b (hsub.subset (flatten_mem hf hb))))⟩
                have hlen2 : (els.take lo ++ (List.replicate (len' + 1) (tidyE P z) ++ els.drop (lo + (len' + 1)))).length = els.length := by simp; omega
                have huf : (uss.take lo ++ (List.replicate (len' + 1) zv.cells.toList ++ uss.drop (lo + (len' + 1)))).flatten = splice uss.flatten (lo * sz) vs := by
                  have e1 : (uss.take lo).flatten = uss.flatten.take (lo * sz) := by
                    have e3 : uss.flatten = (uss.take lo).flatten ++ (uss.drop lo).flatten := by rw [← List.flatten_append, List.take_append_drop]
                    have e4 : (uss.take lo).flatten.length = lo * sz := by
                      rw [flatten_len (fun us hus => hel.sz_all us (List.mem_of_mem_take hus)), List.length_take, Nat.min_eq_left (by omega)]
                    rw [e3, ← e4, List.take_left]
                  have e2 : (uss.drop (lo + (len' + 1))).flatten = uss.flatten.drop (lo * sz + vs.length) := by
                    have e3 : uss.flatten = (uss.take (lo + (len' + 1))).flatten ++ (uss.drop (lo + (len' + 1))).flatten := by rw [← List.flatten_append, List.take_append_drop]
                    have e4 : (uss.take (lo + (len' + 1))).flatten.length = lo * sz + vs.length := by
                      rw [flatten_len (fun us hus => hel.sz_all us (List.mem_of_mem_take hus)), List.length_take, Nat.min_eq_left (by omega), hfll, Nat.add_mul]
                    rw [e3, ← e4, List.drop_left]
                  rw [List.flatten_append, List.flatten_append, e1, e2, hvs]
                  simp [splice]
                have hturn := h.turnS n (b' := .row e (els.take lo ++ (List.replicate (len' + 1) (tidyE P z) ++ els.drop (lo + (len' + 1)))) []) (f' := [g] ++ (ffs.take lo ++ (List.replicate (len' + 1) [] ++ ffs.drop (lo + (len' + 1)))).flatten) hbk (fun m b hm hb2 => hoth b (fun e => hm (h.disj m n b hb2 (by rw [e]; exact hgF)))) (by
                  have := BlkOk.mk (n := n) (R := R) hs hsz (by
                    rw [hlen2, huf]
                    refine ⟨by rw [splice_len _ _ _ (by rw [hfll, ho.1]; omega), ho.1], some ⟨g, o2, none⟩, cap, hR, q1, .inr ⟨g, o2, _, rfl, hcur.set (by have := splice_len cur.toList vs (o2 + lo * sz) (by rw [hcl, hfll]; omega); simpa [q4] using this), q3, ?_, ?_⟩⟩
                    · have := splice_len cur.toList vs (o2 + lo * sz) (by rw [hcl, hfll]; omega)
                      simpa [q4] using this
                    · have e1 : ((splice cur.toList (o2 + lo * sz) vs).drop o2).take (els.length * sz) = splice ((cur.toList.drop o2).take (els.length * sz)) (lo * sz) vs := by
                        apply List.ext_getElem?
                        intro j
                        rw [List.getElem?_take, List.getElem?_drop, splice_get _ _ _ _ (by rw [hcl, hfll]; omega), splice_get _ _ _ _ (by rw [hfll]; simp; omega)]
                        simp only [List.getElem?_take, List.getElem?_drop]
                        by_cases hj : j < els.length * sz
                        · by_cases h1 : j < lo * sz
                          · simp [hj, h1]
                          · by_cases h2 : j < lo * sz + vs.length
                            · simp [hj, h1, h2, show o2 + j < o2 + lo * sz + vs.length by omega, show o2 + j - (o2 + lo * sz) = j - lo * sz by omega]
                            · simp [hj, h1, h2, show ¬ o2 + j < o2 + lo * sz + vs.length by omega]
                        · simp [hj, show ¬ j < lo * sz by omega, show ¬ j < lo * sz + vs.length by omega]
                      rw [q5] at e1
                      simpa using e1) hel2
                  rw [hfb] at this
                  exact this) (by rw [hF]; exact (List.Sublist.refl _).append hsub)
                exact hput hturn
          · simp at hv
        · simp at hv
      · simp at hv
    · simp at hv
  · simp at hv
/-- The bytes of a string. -/
def sbytes (s : ByteArray) : List Int := s.data.toList.map fun b => (b.toNat : Int)
/-- A string's bytes, as a row of one's own. -/
def vbytes (P : Program) (o : Oper) (S : St) (its : List It) : Option (St × List It × List Prop) :=
  match o.op, o.dst with
  | .convert s d x, some t => match vstr P s, velem P d with
    | true, some e => match vkind P e, szOf P e, byT e with
      | some .u8, some 1, true => match ev S.G x with
        | .sc (.string b) => some (⟨S.G.set t (.ow S.H.length), S.H ++ [.row e ((sbytes b).map fun n => .sc (.int .u8 n)) []], S.gv⟩, its, [b.size ≤ 9223372036854775807])
        | _ => none
      | _, _, _ => none
    | _, _ => none
  | _, _ => none
theorem vbytes_sound {o : Oper} {its its' : List It} {p : List Prop} (hv : vbytes P o S its = some (S', its', p)) (hp : conj p) : OpOk P o S S' := by
  intro I C a w ⟨R, F, h⟩
  unfold vbytes at hv
  split at hv
  · rename_i s d x t hop hd
    split at hv
    · rename_i e hs he
      split at hv
      · rename_i hk hsz hby
        split at hv
        · rename_i b hx
          simp only [Option.some.injEq, Prod.mk.injEq] at hv
          obtain ⟨rfl, _, rfl⟩ := hv
          have hp : b.size ≤ 9223372036854775807 := hp
          have hxr := h.ev x
          rw [hx] at hxr
          have hu := hxr.sc_eq
          have hrun := Lib.run_convert_string_bytes (P := P) w s d e b (vstr_spec hs) (velem_spec he) (vkind_spec hk)
          have hge := grownCap_ge w b.size 0 e
          have hcm := grownCap_le_maxLen w b.size 0 e (by unfold maxLen; omega)
          have hsame : ∀ k, k < w.heap.size → (Lib.bytesWorld w e b).heap[k]? = w.heap[k]? := Lib.bytesWorld_at_old w e b
          have hsz2 : w.heap.size ≤ (Lib.bytesWorld w e b).heap.size := by rw [Lib.bytesWorld_size]; omega
          have hkp : Kp C.O w (Lib.bytesWorld w e b) := ⟨rfl, rfl, rfl, hsz2, fun k hk => hsame k (h.olt k hk)⟩
          have hlen : (sbytes b).length = b.size := by unfold sbytes; rw [List.length_map, Array.length_toList]; rfl
          refine ⟨.value (.slice (some ⟨w.heap.size, 0, none⟩) b.size (grownCap w b.size 0 e)), .slice (some ⟨w.heap.size, 0, none⟩) b.size (grownCap w b.size 0 e), Lib.bytesWorld w e b, by simp only [execOp, hop, hu, Sem.run_bind, hrun, Result.andThen_ok, Sem.run_pure], .inl rfl, fun _ => ⟨hsz2, hsame⟩, fun h0 => by simp [floats, hop, hs, he] at h0, ?_⟩
          rw [hd]
          refine h.newRow t e rfl hkp (fun m k hb' => hsame k (h.fresh m k hb').2) (f := fbOf (.slice (some ⟨w.heap.size, 0, none⟩) b.size (grownCap w b.size 0 e)) ++ (List.replicate b.size ([] : List Nat)).flatten) ⟨1, (sbytes b).map fun n => [Value.int .u8 n], List.replicate b.size [], hsz, by decide, ?_, by simp, by simp [hlen], fun j y us f hy hus hf => ?_, by rw [updR_self]⟩ ?_ (fun k hb' => ?_)
          · rw [updR_self]
            have e1 : ((sbytes b).map fun n => [Value.int .u8 n]).flatten = (sbytes b).map (Value.int .u8) := by
              generalize sbytes b = l
              induction l with
              | nil => rfl
              | cons n l ih => simpa using ih
            rw [e1, List.length_map, hlen]
            have hcl : (Lib.bytesCells w e b).size = grownCap w b.size 0 e * 1 := by
              have : b.data.size = b.size := rfl
              simp [Lib.bytesCells, this]; omega
            refine ⟨by simp [hlen], _, _, rfl, hge, .inr ⟨_, 0, Lib.bytesCells w e b, rfl, ⟨_, Lib.bytesWorld_at_new w e b, .inr ⟨Nat.le_refl _, hby⟩⟩, hcm, by simpa using hcl, ?_⟩⟩
            have e2 : (Lib.bytesCells w e b).toList = (sbytes b).map (Value.int .u8) ++ List.replicate (grownCap w b.size 0 e - b.size) (.int .u8 0) := by
              simp [Lib.bytesCells, sbytes]
            rw [List.drop_zero, e2, Nat.mul_one]
            exact List.take_left' (by simp [hlen])
          · have := (List.mem_replicate.1 (List.mem_of_getElem? hf)).2
            subst this
            simp only [List.getElem?_map, Option.map_eq_some_iff] at hy hus
            obtain ⟨n, hn, rfl⟩ := hy
            obtain ⟨n', hn', rfl⟩ := hus
            rw [hn] at hn'
            obtain rfl := Option.some.inj hn'
            unfold ElB
            exact ⟨rfl, rfl, fun u hu => by simp at hu; subst hu; rfl, PwL.cons (Rel.leaf false _ _ rfl (.sc (.int .u8 n) rfl)) PwL.nil⟩
          · rw [flatten_nils, List.append_nil]; exact fb_nodup _
          · rw [flatten_nils, List.append_nil] at hb'
            obtain rfl := fb_new _ _ _ k hb'
            exact ⟨fun ho => Nat.lt_irrefl _ (h.olt _ ho), fun m hm => Nat.lt_irrefl _ (h.fresh m _ hm).2⟩
        · simp at hv
      · simp at hv
    · simp at hv
  · simp at hv
/-! maps whose keys are three strings -/
def strs3 : List V → Option (ByteArray × ByteArray × ByteArray)
  | [.sc (.string a), .sc (.string b), .sc (.string c)] => some (a, b, c)
  | _ => none
/-- Is it a map from three strings to truth values? -/
def vmk3 (P : Program) (t : Nat) : Option Nat := match P.underlying t with
  | some (.map kt vt) => match P.underlying kt with
    | some (.array 3 e) => match vstr P e, szOf P e, vbool P vt with
      | true, some 1, true => match (P.info? vt).bind (·.zero) with
        | some (.bool false) => some kt
        | _ => none
      | _, _, _ => none
    | _ => none
  | _ => none
def homeMap (H : List Blk) (n : Nat) : Option (List (ByteArray × ByteArray × ByteArray)) := match H[n]? with
  | some (.mset ks) => some ks
  | _ => none
def addK (ks : List (ByteArray × ByteArray × ByteArray)) (k : ByteArray × ByteArray × ByteArray) : List (ByteArray × ByteArray × ByteArray) := if ks.contains k = true then ks else ks ++ [k]
def vmap (P : Program) (o : Oper) (S : St) (its : List It) : Option (St × List It × List Prop) :=
  match o.op, o.dst with
  | .makeMap t none, some d => match vmk3 P t with
    | some _ => some (⟨S.G.set d (.mp S.H.length), S.H ++ [.mset []], S.gv⟩, its, [])
    | none => none
  | .lookup t x i false, some d => match ev S.G x, ev S.G i with
    | .mp n, .agg cs => match homeMap S.H n, strs3 cs, vmk3 P t with
      | some ks, some k, some _ => some ({ S with G := S.G.set d (.sc (.bool (ks.contains k))) }, its, [])
      | _, _, _ => none
    | _, _ => none
  | .mapUpdate t m k v, none => match ev S.G m, ev S.G k, ev S.G v with
    | .mp n, .agg cs, .sc (.bool true) => match homeMap S.H n, strs3 cs, vmk3 P t with
      | some ks, some q, some _ => some ({ S with H := S.H.set n (.mset (addK ks q)) }, its, [])
      | _, _, _ => none
    | _, _, _ => none
  | _, _ => none
theorem vmk3_spec {t kt : Nat} (h : vmk3 P t = some kt) : ∃ vt e, P.underlying t = some (.map kt vt) ∧ P.underlying kt = some (.array 3 e) ∧ P.underlying e = some .string ∧ szOf P e = some 1 ∧ vagg P e = some false ∧ (P.info? vt).bind (·.zero) = some (.bool false) := by
  unfold vmk3 at h
  split at h
  · rename_i kt' vt hu
    split at h
    · rename_i e hk
      split at h
      · rename_i h1 h2 h3
        split at h
        · rename_i hz
          obtain rfl := Option.some.inj h
          have he := vstr_spec h1
          exact ⟨vt, e, hu, hk, he, h2, by unfold vagg; rw [he], hz⟩
        · cases h
      · cases h
    · cases h
  · cases h
theorem strs3_rel {I : Nat → Prop} {w : World} {R : Nat → Value} {N : Nat} {t : Bool} {cs : List V} {k : ByteArray × ByteArray × ByteArray} {u : Value} {f : List Nat} (h : Rel P I w R N t (.agg cs) u f) (hk : strs3 cs = some k) : u = mkey k := by
  obtain ⟨us, rfl, hr, _⟩ := h.agg_inv
  unfold strs3 at hk
  split at hk
  · rename_i x y z
    obtain rfl := Option.some.inj hk
    obtain ⟨u0, r0, g0, g0', rfl, _, q0, hr⟩ := hr.uncons
    obtain ⟨u1, r1, g1, g1', rfl, _, q1, hr⟩ := hr.uncons
    obtain ⟨u2, r2, g2, g2', rfl, _, q2, hr⟩ := hr.uncons
    obtain ⟨rfl, _⟩ := hr.nil_inv
    rw [q0.sc_eq, q1.sc_eq, q2.sc_eq]
    rfl
  · cases hk
theorem run_part3 {e : Nat} (he : vagg P e = some false) (k : ByteArray × ByteArray × ByteArray) (w2 : World) : (part e #[Value.string k.1, .string k.2.1, .string k.2.2] 0).run P w2 = .ok (.string k.1) w2 ∧ (part e #[Value.string k.1, .string k.2.1, .string k.2.2] 1).run P w2 = .ok (.string k.2.1) w2 ∧ (part e #[Value.string k.1, .string k.2.1, .string k.2.2] 2).run P w2 = .ok (.string k.2.2) w2 :=
  ⟨run_part_one (us := [Value.string k.1, .string k.2.1, .string k.2.2]) w2 he rfl, run_part_one (us := [Value.string k.1, .string k.2.1, .string k.2.2]) w2 he rfl, run_part_one (us := [Value.string k.1, .string k.2.1, .string k.2.2]) w2 he rfl⟩
theorem run_checkKey3 {kt e : Nat} (hk : P.underlying kt = some (.array 3 e)) (he : P.underlying e = some .string) (hs : szOf P e = some 1) (hv : vagg P e = some false) (k : ByteArray × ByteArray × ByteArray) (em : Bool) (n : Nat) (w2 : World) :
    (Instr.checkKey em (n + 1 + 1) kt (mkey k)).run P w2 = .ok () w2 := by
  obtain ⟨p0, p1, p2⟩ := run_part3 hv k w2
  have hc : ∀ s : ByteArray, (Instr.checkKey em (n + 1) e (.string s)).run P w2 = .ok () w2 := fun s => by
    simp [Instr.checkKey, run_underlying he]
  have hsz : (sizeOf e).run P w2 = .ok 1 w2 := run_sizeOf hs
  rw [Instr.checkKey]
  simp only [Sem.run_bind, run_underlying hk, Result.andThen_ok, mkey]
  simp only [Std.Legacy.Range.forIn_eq_forIn_range', Std.Legacy.Range.size, Nat.sub_zero, Nat.add_one_sub_one, Nat.div_one]
  rw [show List.range' 0 3 = [0, 1, 2] from rfl]
  simp only [List.forIn_cons, List.forIn_nil, Sem.run_bind, hsz, Result.andThen_ok, Nat.zero_mul, Nat.one_mul, Nat.mul_one, p0, p1, p2, hc, Sem.run_pure]
theorem run_equal3 {kt e : Nat} (hk : P.underlying kt = some (.array 3 e)) (he : P.underlying e = some .string) (hs : szOf P e = some 1) (hv : vagg P e = some false) (k q : ByteArray × ByteArray × ByteArray) (w2 : World) :
    (Op.equal kt (mkey k) (mkey q)).run P w2 = .ok (k == q) w2 := by
  obtain ⟨p0, p1, p2⟩ := run_part3 hv k w2
  obtain ⟨r0, r1, r2⟩ := run_part3 hv q w2
  have hsz : (sizeOf e).run P w2 = .ok 1 w2 := run_sizeOf hs
  have hc : ∀ s s' : ByteArray, (Op.equalIn 9999 e (.string s) (.string s')).run P w2 = .ok (s == s') w2 := fun s s' => by
    rw [show 9999 = 9998 + 1 from rfl]
    unfold Op.equalIn
    simp [run_underlying he]
  show (Op.equalIn (9999 + 1) kt (mkey k) (mkey q)).run P w2 = _
  unfold Op.equalIn
  simp only [Sem.run_bind, run_underlying hk, Result.andThen_ok, mkey, hsz]
  simp only [Std.Legacy.Range.forIn_eq_forIn_range', Std.Legacy.Range.size, Nat.sub_zero, Nat.add_one_sub_one, Nat.div_one]
  rw [show List.range' 0 3 = [0, 1, 2] from rfl]
  obtain ⟨a, b, c⟩ := k
  obtain ⟨a', b', c'⟩ := q
  have hbe : (((a, b, c) : ByteArray × ByteArray × ByteArray) == (a', b', c')) = (a == a' && (b == b' && c == c')) := rfl
  rw [hbe]
  have h0 := hc a a'
  have h1 := hc b b'
  have h2 := hc c c'
  clear hc hbe
  generalize (a == a') = x at *
  generalize (b == b') = y at *
  generalize (c == c') = z at *
  simp only [List.forIn_cons, List.forIn_nil, Sem.run_bind, Result.andThen_ok, Nat.zero_mul, Nat.one_mul, Nat.mul_one, p0, p1, p2, r0, r1, r2, h0]
  cases x <;> cases y <;> cases z <;> simp [h1, h2, p1, p2, r1, r2]
theorem ba_same (s : ByteArray) : (s == s) = true := by
  rcases s with ⟨a⟩
  show (a == a) = true
  simp
theorem ba_eq {a b : ByteArray} (h : (a == b) = true) : a = b := by
  rcases a with ⟨a⟩
  rcases b with ⟨b⟩
  have h1 : ((⟨a⟩ : ByteArray) == ⟨b⟩) = (a == b) := rfl
  rw [h1] at h
  rw [eq_of_beq h]
theorem key_eq {k q : ByteArray × ByteArray × ByteArray} (h : (k == q) = true) : k = q := by
  obtain ⟨a, b, c⟩ := k
  obtain ⟨a', b', c'⟩ := q
  have h : (a == a' && (b == b' && c == c')) = true := h
  simp only [Bool.and_eq_true] at h
  rw [ba_eq h.1, ba_eq h.2.1, ba_eq h.2.2]
theorem run_find3 {kt e : Nat} (hk : P.underlying kt = some (.array 3 e)) (he : P.underlying e = some .string) (hs : szOf P e = some 1) (hv : vagg P e = some false) (k : ByteArray × ByteArray × ByteArray) (w2 : World) :
    ∀ (es : List MapEntry) (ks : List (ByteArray × ByteArray × ByteArray)) (i : Nat), (es.map fun e => (e.key, e.val)) = (ks.map fun k => (mkey k, Value.bool true)) →
    ∃ r, (Instr.findAsking kt (mkey k) es i).run P w2 = .ok r w2 ∧ (ks.contains k = false → r = none) ∧ (ks.contains k = true → ∃ j q, r = some (j, .bool true) ∧ i ≤ j ∧ es[j - i]? = some q ∧ q.key = mkey k ∧ q.val = .bool true)
  | [], ks, i, h => by
    have : ks = [] := by cases ks <;> simp at h ⊢
    subst this
    exact ⟨none, by simp [Instr.findAsking], fun _ => rfl, fun h => by cases h⟩
  | e0 :: es, ks, i, h => by
    match ks, h with
    | q :: ks, h =>
      simp only [List.map_cons, List.cons.injEq, Prod.mk.injEq] at h
      obtain ⟨⟨h1, h2⟩, h3⟩ := h
      have heq := run_equal3 hk he hs hv k q w2
      unfold Instr.findAsking
      rw [h1]
      simp only [Sem.run_bind, heq, Result.andThen_ok]
      by_cases hkq : k == q
      · rw [hkq]
        refine ⟨some (i, e0.val), by simp, fun hc => ?_, fun _ => ⟨i, e0, by rw [h2], Nat.le_refl _, by simp, ?_, h2⟩⟩
        · rw [List.contains_cons, hkq] at hc; cases hc
        · rw [h1, key_eq hkq]
      · have hkq : (k == q) = false := by simpa using hkq
        obtain ⟨r, g1, g2, g3⟩ := run_find3 hk he hs hv k w2 es ks (i + 1) h3
        rw [hkq]
        refine ⟨r, by simpa using g1, fun hc => g2 (by rw [List.contains_cons, hkq] at hc; exact hc), fun hc => ?_⟩
        obtain ⟨j, p, e1, e2, e3, e4, e5⟩ := g3 (by rw [List.contains_cons, hkq] at hc; exact hc)
        exact ⟨j, p, e1, by omega, by rw [show j - i = (j - (i + 1)) + 1 by omega]; simpa using e3, e4, e5⟩
theorem Rel.mp_inv {I : Nat → Prop} {w : World} {R : Nat → Value} {N : Nat} {t : Bool} {n : Nat} {u : Value} {f : List Nat} (h : Rel P I w R N t (.mp n) u f) : ∃ g, n < N ∧ R n = .map (some g) ∧ u = .map (some g) := by
  cases h with
  | leaf _ _ _ hb => simp [V.leafB] at hb
  | mp _ g hn hR => exact ⟨g, hn, hR, rfl⟩
theorem Inv.map {I : Nat → Prop} {w : World} {R : Nat → Value} {C : Ctx} {a : Act} {F : Nat → List Nat} (h : Inv P I C R S a F w) {n : Nat} {ks : List (ByteArray × ByteArray × ByteArray)} (hm : homeMap S.H n = some ks) :
    ∃ (g : Nat) (es : Array MapEntry) (cl : Nat), S.H[n]? = some (.mset ks) ∧ R n = .map (some g) ∧ w.heap[g]? = some (.map es cl) ∧ (es.toList.map fun e => (e.key, e.val)) = (ks.map fun k => (mkey k, Value.bool true)) ∧ F n = [g] := by
  unfold homeMap at hm
  split at hm
  · rename_i ks' hg
    obtain rfl := Option.some.inj hm
    obtain ⟨g, es, cl, h1, h2, h3, h4⟩ := h.blk n _ hg
    exact ⟨g, es, cl, hg, h1, h2, h3, h4⟩
  · cases hm
theorem sameBits_mkey (k : ByteArray × ByteArray × ByteArray) : Instr.sameBits 10000 (mkey k) (mkey k) = true := by
  have e : ∀ n (s : ByteArray), Instr.sameBits n (.string s) (.string s) = true := fun n s => by cases n <;> simp [Instr.sameBits, ba_same]
  rw [show 10000 = 9999 + 1 from rfl]
  simp [Instr.sameBits, mkey, e, ba_same]
theorem vmap_sound {o : Oper} {its its' : List It} {p : List Prop} (hv : vmap P o S its = some (S', its', p)) : OpOk P o S S' := by
  intro I C a w ⟨R, F, h⟩
  unfold vmap at hv
  split at hv
  · rename_i t d hop hd
    split at hv
    · rename_i kt hk
      simp only [Option.some.injEq, Prod.mk.injEq] at hv
      obtain ⟨rfl, _, rfl⟩ := hv
      have hrun : (Instr.makeMap t none).run P w = .ok (.map (some w.heap.size)) (w.alloc (.map #[] 0)) := by simp [Instr.makeMap]
      refine ⟨.value (.map (some w.heap.size)), .map (some w.heap.size), w.alloc (.map #[] 0), ?_, .inl rfl, fun _ => .alloc w _, fun h0 => by simp [floats, hop] at h0, ?_⟩
      · simp only [execOp, hop, Option.map_none, Sem.run_bind, hrun, Result.andThen_ok, Sem.run_pure]
      · rw [hd]
        have hb := kp_new h.olt (.map #[] 0)
        have h2 := h.new (b := .mset []) (r := .map (some w.heap.size)) (f := [w.heap.size]) hb (fun m b hb' => Below.heap_alloc w _ b (h.fresh m b hb').2)
          ⟨w.heap.size, #[], 0, updR_self _ _ _, heap_alloc_new w _, rfl, rfl⟩ (by simp) (fun x hx => by
            simp at hx; subst hx
            exact ⟨fun ho => Nat.lt_irrefl _ (h.olt _ ho), fun m _ hm => Nat.lt_irrefl _ (h.fresh m _ hm).2⟩)
        exact .of (h2.put (some d) (.mp S.H.length w.heap.size (by simp) (updR_self _ _ _)))
    · cases hv
  · rename_i t x i d hop hd
    split at hv
    · rename_i n cs hex hei
      split at hv
      · rename_i ks k kt hm hk3 hk
        simp only [Option.some.injEq, Prod.mk.injEq] at hv
        obtain ⟨rfl, _, rfl⟩ := hv
        have hx := h.ev x
        have hi := h.ev i
        rw [hex] at hx
        rw [hei] at hi
        obtain ⟨g, hn, hR, hρ⟩ := hx.mp_inv
        obtain ⟨g', es, cl, hg, hR', hes, hmap, hF⟩ := h.map hm
        obtain rfl : g' = g := by rw [hR] at hR'; simpa using hR'.symm
        have hki := strs3_rel hi hk3
        obtain ⟨vt, e, hu, hku, heu, hsz, hve, hzv⟩ := vmk3_spec hk
        have hgl : g' < w.heap.size := (Array.getElem?_eq_some_iff.1 hes).1
        have hrun : ∀ w2, Same w w2 → (execOp a.eval o).run P w2 = .ok (.value (.bool (ks.contains k))) w2 := fun w2 hS => by
          have hes2 : w2.heap[g']? = some (.map es cl) := (hS g' hgl).trans hes
          obtain ⟨r, f1, f2, f3⟩ := run_find3 hku heu hsz hve k w2 es.toList ks 0 hmap
          have hc := run_checkKey3 hku heu hsz hve k es.isEmpty 9998 w2
          have hf := run_findKey_eq w2 (k := kt) (by rw [hku]) (mkey k) es.toList
          rw [f1] at hf
          have hz : (zeroValue vt).run P w2 = .ok (.bool false) w2 := by
            cases hi' : P.info? vt with
            | none => rw [hi'] at hzv; cases hzv
            | some inf =>
              rw [hi'] at hzv
              have hzv : inf.zero = some (.bool false) := hzv
              simp [zeroValue, typeInfo, hi', hzv]
          simp only [execOp, hop, hρ, hki, Instr.lookup, Sem.run_bind, run_underlying hu, Result.andThen_ok, MapKept.run_getObj_map hes2, Sem.run_pure, hc, hf]
          cases hb : ks.contains k with
          | false =>
            rw [f2 hb]
            simp only [Sem.run_bind, hz, Result.andThen_ok, Sem.run_pure]
            rfl
          | true =>
            obtain ⟨j, q, rfl, _⟩ := f3 hb
            simp only [Sem.run_pure, Result.andThen_ok]
            rfl
        refine ⟨_, _, w, hrun w (.refl w), .inl rfl, fun _ => .refl w, fun _ => ⟨rfl, rfl, hrun⟩, ?_⟩
        rw [hd]
        exact .of (h.put (some d) (.leaf _ _ _ rfl (.sc _ rfl)))
      · cases hv
    · cases hv
  · rename_i t m k v hop hd
    split at hv
    · rename_i n cs hem hek hev
      split at hv
      · rename_i ks q kt hm hk3 hk
        simp only [Option.some.injEq, Prod.mk.injEq] at hv
        obtain ⟨rfl, _, rfl⟩ := hv
        have hx := h.ev m
        have hi := h.ev k
        have hvv := h.ev v
        rw [hem] at hx
        rw [hek] at hi
        rw [hev] at hvv
        have hvv := hvv.sc_eq
        obtain ⟨g, hn, hR, hρ⟩ := hx.mp_inv
        obtain ⟨g', es, cl, hg, hR', hes, hmap, hF⟩ := h.map hm
        obtain rfl : g' = g := by rw [hR] at hR'; simpa using hR'.symm
        have hki := strs3_rel hi hk3
        obtain ⟨vt, e, hu, hku, heu, hsz, hve, hzv⟩ := vmk3_spec hk
        have hgl : g' < w.heap.size := (Array.getElem?_eq_some_iff.1 hes).1
        obtain ⟨r, f1, f2, f3⟩ := run_find3 hku heu hsz hve q w es.toList ks 0 hmap
        have hc := run_checkKey3 hku heu hsz hve q false 9998 w
        have hf := run_findKey_eq w (k := kt) (by rw [hku]) (mkey q) es.toList
        rw [f1] at hf
        obtain ⟨es', cl', hrun, hmap'⟩ : ∃ (es' : Array MapEntry) (cl' : Nat), (Instr.mapUpdate t (.map (some g')) (mkey q) (.bool true)).run P w = .ok () { w with heap := w.heap.setIfInBounds g' (.map es' cl') } ∧ (es'.toList.map fun e => (e.key, e.val)) = ((addK ks q).map fun k => (mkey k, Value.bool true)) := by
          cases hb : ks.contains q with
          | false =>
            rw [f2 hb] at hf
            refine ⟨es.push { key := mkey q, val := .bool true, born := cl }, cl + 1, ?_, ?_⟩
            · simp only [Instr.mapUpdate, Sem.run_bind, run_underlying hu, Result.andThen_ok, MapKept.run_getObj_map hes, hc, hf, MapKept.run_setObj_map _ hes]
            · unfold addK
              rw [hb, if_neg (by decide)]
              simp only [Array.toList_push, List.map_append, hmap, List.map_cons, List.map_nil]
          | true =>
            obtain ⟨j, p, rfl, _, e3, e4, e5⟩ := f3 hb
            simp only [Nat.sub_zero] at e3
            refine ⟨es.modify j fun e => { e with key := mkey q, val := .bool true }, cl, ?_, ?_⟩
            · have hgk : ((es[j]?).map (·.key)).getD (mkey q) = mkey q := by
                rw [← Array.getElem?_toList, e3]
                exact e4
              simp only [Instr.mapUpdate, Sem.run_bind, run_underlying hu, Result.andThen_ok, MapKept.run_getObj_map hes, hc, hf, hgk, Instr.keyThatStays, sameBits_mkey, if_true, Sem.run_pure, MapKept.run_setObj_map _ hes]
            · unfold addK
              rw [hb, if_pos rfl, ← hmap]
              apply List.ext_getElem?
              intro i
              rw [List.getElem?_map, List.getElem?_map, Array.getElem?_toList, Array.getElem?_toList, Array.getElem?_modify]
              split
              · rename_i e
                subst e
                rw [Array.getElem?_toList] at e3
                rw [e3]
                simp [e4, e5]
              · rfl
        have hgn := h.fresh n g' (by rw [hF]; simp)
        have hoth : ∀ b, b ≠ g' → (w.heap.setIfInBounds g' (.map es' cl'))[b]? = w.heap[b]? := fun b hb => by
          rw [Array.getElem?_setIfInBounds, if_neg (fun e => hb e.symm)]
        have hb' : Kp C.O w { w with heap := w.heap.setIfInBounds g' (.map es' cl') } := ⟨rfl, rfl, rfl, by simp, fun b ho => hoth b (fun e => hgn.1 (e ▸ ho))⟩
        refine ⟨.skip, undef, { w with heap := w.heap.setIfInBounds g' (.map es' cl') }, ?_, .inr ⟨rfl, rfl⟩, fun h0 => by simp [growsX, appNl, grows, hop] at h0, fun h0 => by simp [floats, hop] at h0, ?_⟩
        · simp only [execOp, hop, hρ, hki, hvv, Sem.run_bind, hrun, Result.andThen_ok, Sem.run_pure]
        · rw [hd]
          exact .of (h.turn n hb' (fun m b hm hb2 => hoth b (fun z => hm (h.disj m n b hb2 (by rw [hF, z]; simp)))) ⟨g', es', cl', hR, by simp [hgl], hmap', rfl⟩ (by simp) (fun y hy => by
            simp at hy; subst hy
            exact ⟨hgn.1, fun m hm hm2 => hm (h.disj m n y hm2 (by rw [hF]; simp))⟩))
      · cases hv
    · cases hv
  · cases hv
end
end Go.Proofs.YtdahdpnkppknfaaGreatDoorM
