/- What an operation yields that only looks at its operands. No condition. -/
import Derived.Test.YtdahdpnkppknfaaGreatDoorM2
namespace Go.Proofs.YtdahdpnkppknfaaGreatDoorM
set_option linter.unusedVariables false
set_option linter.unusedSimpArgs false
open Go.RowKit

mutual
/-- The same, only to be read. -/
def V.vw : V → V
  | .sl _ e els => .sl false e els
  | .agg cs => .agg (vwL cs)
  | .fn g cs => .fn g (vwL cs)
  | .sc v => .sc v
  | .nl e => .nl e
  | .cp cs => .cp cs
  | .bx _ cs => .cp cs
  | _ => .un
def vwL : List V → List V
  | [] => []
  | c :: cs => c.vw :: vwL cs
end
theorem vwL_map : ∀ cs : List V, vwL cs = cs.map V.vw
  | [] => rfl
  | c :: cs => by simp [vwL, vwL_map cs]
/-- A nil slice, read at its type. -/
def nrm (P : Program) (t : Nat) : V → V
  | .sc (.slice none 0 0) => match velem P t with
    | some e => .nl e
    | none => .sc (.slice none 0 0)
  | v => v
def vnum : Option Operand → (Operand → V) → Option (Option Int)
  | none, _ => some none
  | some x, r => match r x with
    | .sc (.int _ n) => some (some n)
    | _ => none
def isZero : Option (Option Int) → Bool
  | some none => true
  | some (some (.ofNat 0)) => true
  | _ => false
def isSlice : V → Bool
  | .sl false _ _ | .ow _ | .nl _ | .sb _ _ _ _ => true
  | _ => false
/-- Are two structs of plain fields alike? -/
def veqF (P : Program) : List Field → List V → List V → Option Bool
  | [], _, _ => some true
  | f :: fs, xs, ys =>
    if f.name ≠ "_" then
      match vagg P f.type, xs[f.offset]?, ys[f.offset]? with
      | some false, some (.sc (.int k a)), some (.sc (.int k' b)) => match vkind P f.type, veqF P fs xs ys with
        | some _, some r => if k = k' then some ((a == b) && r) else none
        | _, _ => none
      | some false, some (.sc (.string a)), some (.sc (.string b)) => match vstr P f.type, veqF P fs xs ys with
        | true, some r => some ((a == b) && r)
        | _, _ => none
      | some false, some (.sc (.bool a)), some (.sc (.bool b)) => match vbool P f.type, veqF P fs xs ys with
        | true, some r => some ((a == b) && r)
        | _, _ => none
      | _, _, _ => none
    else none
def vseq (P : Program) (op : BinOp) (t : Nat) (xs ys : List V) : Option Bool :=
  match P.underlying t, P.stoodInHeld t, P.eqGuardType P.depth t with
  | some (.struct fs), false, false => match veqF P fs.toList xs ys, op with
    | some b, .eql => some b
    | some b, .neq => some (!b)
    | _, _ => none
  | _, _, _ => none
/-- Operations that only look at what their operands tell; what must hold. -/
def vn (P : Program) (o : Oper) (r : Operand → V) (its : List It) : Option (V × List It × List Prop) :=
  match o.op with
  | .move x => some (nrm P o.type (r x), its, [])
  | .assign x => some (nrm P o.type (r x), its, [])
  | .pick c x y => match r c, its with
    | .sc (.bool b), .bit g :: its' => some (nrm P o.type (match g with | true => r x | false => r y), its', [b = g])
    | _, _ => none
  | .binOp op t x y _ => match r x, r y with
    | .sc a, .sc b => match vbin P op t a b with
      | some (v, p) => some (.sc v, its, p)
      | none => none
    | .agg xs, .agg ys => match vseq P op t xs ys with
      | some b => some (.sc (.bool b), its, [])
      | none => none
    | _, _ => none
  | .unOp .not _ x => match r x with
    | .sc (.bool b) => some (.sc (.bool (!b)), its, [])
    | _ => none
  | .convert s d x => match r x, vkind P s, vkind P d with
    | .sc (.int _ n), some _, some k => some (.sc (.int k (k.wrap n)), its, [])
    | .sc (.int _ n), some _, none => if vstr P d = true then some (.sc (.string (Utf8.encode n)), its, []) else none
    | _, _, _ => none
  | .fieldAddr s x f => match r x, voff P s f with
    | .ptr d o, some (off, _) => some (.ptr d (o + off), its, [])
    | .cp cs, some (off, _) => some (.cp (cs.drop off), its, [])
    | .ep n sz i o, some (off, _) => some (.ep n sz i (o + off), its, [])
    | _, _ => none
  | .field t x f => match r x, voff P t f, vftype P t f with
    | .agg cs, some (off, n), some ft => match vagg P ft with
      | some true => if off + n ≤ cs.length then some (.agg ((cs.drop off).take n), its, []) else none
      | some false => match cs[off]? with
        | some c => some (c, its, [])
        | none => none
      | none => none
    | _, _, _ => none
  | .indexAddr t x i => match r x, r i, velem P t, its with
    | .sl false e els, .sc (.int _ n), some e', .el y :: its' => if e = e' then some (.cp y.cells, its', [0 ≤ n, els[n.toNat]? = some y]) else none
    | _, _, _, _ => none
  | .index t x i => match r x, r i with
    | .sc (.string s), .sc (.int _ n) => if vstr P t = true then some (.sc (.int .u8 ((s.data.getD n.toNat 0).toNat)), its, [0 ≤ n, n < s.size]) else none
    | _, _ => none
  | .extract x i => match r x with
    | .tup vs => match vs[i]? with
      | some v => some (v, its, [])
      | none => none
    | _ => none
  | .makeFunc (.func g) first caps => if first.toList.length = 0 ∧ (caps.toList.map r).all V.notTup = true then some (.fn g (caps.toList.map r), its, []) else none
  | .nilCheck x => match r x with
    | .ptr d o => some (.ptr d o, its, [])
    | .cp cs => some (.cp cs, its, [])
    | .ep n sz i o => some (.ep n sz i o, its, [])
    | _ => none
  | .load t x => match r x, vagg P t, szOf P t with
    | .cp cs, some true, some n => if n ≤ cs.length then some (.agg ((cs.take n).map V.vw), its, []) else none
    | .cp (c :: _), some false, _ => some (c.vw, its, [])
    | _, _, _ => none
  | .slice t x lo hi none => match r x, vnum lo r, vnum hi r with
    | .sc (.string s), some l, some h => if vstr P t = true then some (.sc (.string (s.extract (l.getD 0).toNat (h.getD s.size).toNat)), its, [0 ≤ l.getD 0, l.getD 0 ≤ h.getD s.size, h.getD s.size ≤ s.size]) else none
    | .sl false e els, some l, some h => match velem P t with
      | some e' => if e = e' then some (.sl false e ((els.take (h.getD els.length).toNat).drop (l.getD 0).toNat), its, [0 ≤ l.getD 0, l.getD 0 ≤ h.getD els.length, h.getD els.length ≤ els.length]) else none
      | none => none
    | .nl e, some l, some h => match velem P t, szOf P e with
      | some e', some _ => if e = e' then some (.nl e, its, [0 ≤ l.getD 0, l.getD 0 ≤ h.getD ((0 : Nat) : Int), h.getD ((0 : Nat) : Int) ≤ ((0 : Nat) : Int)]) else none
      | _, _ => none
    | _, _, _ => none
  | .slice t x lo hi (some mx) => match velem P t, isSlice (r x), isZero (vnum lo r), isZero (vnum (some mx) r), hi with
    | some e, true, true, true, some h => if isZero (vnum (some h) r) = true then (match szOf P e with | some _ => some (.nl e, its, []) | none => none) else none
    | _, _, _, _, _ => none
  | .call c => match c.callee, c.args.toList, c.argTypes.toList with
    | .builtin .len, [x], [t] => match r x with
      | .sc (.string s) => if vstr P t = true then some (.sc (.int .i64 s.size), its, []) else none
      | .sl false _ els => match velem P t with
        | some _ => some (.sc (.int .i64 els.length), its, [])
        | none => none
      | .nl _ => match velem P t with
        | some _ => some (.sc (.int .i64 0), its, [])
        | none => none
      | .sb _ _ _ len => match velem P t with
        | some _ => some (.sc (.int .i64 len), its, [])
        | none => none
      | _ => none
    | .builtin .cap, [x], [t] => match r x with
      | .nl _ => match velem P t with
        | some _ => some (.sc (.int .i64 0), its, [])
        | none => none
      | _ => none
    | .builtin .max, [x, y], _ => match r x, r y with
      | .sc (.int k a), .sc (.int _ b) => some (.sc (.int k (if a < b then b else a)), its, [])
      | _, _ => none
    | .builtin .min, [x, y], _ => match r x, r y with
      | .sc (.int k a), .sc (.int _ b) => some (.sc (.int k (if b < a then b else a)), its, [])
      | _, _ => none
    | _, _, _ => none
  | _ => none

section
variable {P : Program} {R : Nat → Value} {N : Nat} {I : Nat → Prop} {w : World}
theorem Vw.rel {v : V} {u : Value} (h : Vw P I w v u) (t : Bool) : Rel P I w R N t v.vw u [] := by
  induction h with
  | un u => exact .leaf _ _ _ rfl (.un u)
  | sc v h => exact .leaf _ _ _ rfl (.sc v h)
  | nl e A => exact .leaf _ _ _ rfl (.nl e A)
  | sl o e els A cap sz uss hs hz hl hm hn hI' hw hlen hc hr ih => exact .leaf _ _ _ rfl (.sl false e els A cap sz uss hs hz hl hm hn hI' hw hlen hc hr)
  | agg cs us hlen hr h1 ih =>
    refine Rel.agg_mk (.of_bare (by simp [vwL_map, hlen]) fun j c u hc hu => ?_) h1
    rw [vwL_map, List.getElem?_map] at hc
    cases hj : cs[j]? with
    | none => simp [hj] at hc
    | some y =>
      simp only [hj, Option.map_some, Option.some.injEq] at hc
      subst hc
      exact ih j y u hj hu
  | fn g cs us hlen hr ih =>
    refine .fn t g (vwL cs) us (by rw [vwL_map, List.all_map]; exact List.all_eq_true.2 fun c _ => by cases c <;> rfl) (by simp [vwL_map, hlen]) fun j c u hc hu => ?_
    rw [vwL_map, List.getElem?_map] at hc
    cases hj : cs[j]? with
    | none => simp [hj] at hc
    | some y =>
      simp only [hj, Option.map_some, Option.some.injEq] at hc
      subst hc
      exact ih j y u hj hu
  | cp cs ad us hI' hs hw hlen hr h1 ih => exact .leaf _ _ _ rfl (.cp cs ad us hI' hs hw hlen hr h1)
  | bx e cs ad us hI' hs hw hlen hr h1 ih => exact .leaf _ _ _ rfl (.cp cs ad us hI' hs hw hlen hr h1)
theorem Rel.sc_eq {t : Bool} {v u : Value} {f : List Nat} (h : Rel P I w R N t (.sc v) u f) : u = v := by
  cases h with
  | leaf _ _ _ _ h => cases h; rfl
theorem Rel.nrm {t : Bool} {v : V} {u : Value} (ty : Nat) (h : Rel P I w R N t v u []) : Rel P I w R N t (nrm P ty v) u [] := by
  unfold Go.Proofs.YtdahdpnkppknfaaGreatDoorM.nrm
  split
  · split
    · rw [h.sc_eq]
      exact .leaf _ _ _ rfl (.nl _ none)
    · exact h
  · exact h
theorem Rel.ptr_inv {n off : Nat} {u : Value} {f : List Nat} {t : Bool} (h : Rel P I w R N t (.ptr n off) u f) : ∃ g, n < N ∧ R n = .pointer (some ⟨g, 0, none⟩) ∧ u = .pointer (some ⟨g, off, none⟩) ∧ f = [] := by
  cases h with
  | leaf _ _ _ hb => simp [V.leafB] at hb
  | ptr _ _ g hn hR => exact ⟨g, hn, hR, rfl, rfl⟩
theorem Rel.ep_inv {n sz i off : Nat} {u : Value} {f : List Nat} {t : Bool} (h : Rel P I w R N t (.ep n sz i off) u f) : ∃ g o L cap, n < N ∧ R n = .slice (some ⟨g, o, none⟩) L cap ∧ u = .pointer (some ⟨g, o + (i * sz + off), none⟩) ∧ f = [] := by
  cases h with
  | leaf _ _ _ hb => simp [V.leafB] at hb
  | ep _ _ _ _ g o L cap hn hR => exact ⟨g, o, L, cap, hn, hR, rfl, rfl⟩
/-- An element of a slice that is only read: its cells. -/
theorem Rel.elem {t : Bool} {e : Nat} {els : List V} {u : Value} {k : Nat} {y : V} (h : Rel P I w R N t (.sl false e els) u []) (hk : els[k]? = some y) :
    ∃ A cap sz, u = .slice (some A) els.length cap ∧ szOf P e = some sz ∧ Vw P I w (.cp y.cells) (.pointer (some (A.add (k * sz)))) := by
  obtain ⟨h, _⟩ := h.vw_leaf rfl
  have hkl := (List.getElem?_eq_some_iff.1 hk).1
  cases h with
  | sl _ _ _ A cap sz uss hs hz hl hm hn hI hw hlen hc hr =>
    cases A with
    | none => have := hn rfl; subst this; simp at hk
    | some ad =>
      refine ⟨ad, cap, sz, rfl, hs, ?_⟩
      have hus : uss[k]? = some (uss[k]'(by omega)) := List.getElem?_eq_getElem (by omega)
      generalize uss[k]'(by omega) = us at hus
      obtain ⟨c1, c2, c3⟩ := hc k y us hk hus
      have hspot : (ad.add (k * sz)).spot = none := by
        unfold Addr.add
        split
        · rename_i h0
          have hw0 := hw ad rfl k us 0 _ hus (List.getElem?_eq_getElem (by omega))
          unfold Addr.add at hw0
          simp only [Nat.add_zero, h0, if_true] at hw0
          unfold World.cell? at hw0
          split at hw0
          · split at hw0
            · cases hw0
            · rename_i hns; simpa using hns
          · cases hw0
        · rfl
      have hblk : (ad.add (k * sz)).block = ad.block := by unfold Addr.add; split <;> rfl
      refine .cp y.cells _ us (by rw [hblk]; exact hI ad rfl (by omega)) hspot (fun j x hx => ?_) (by omega) (fun j c x hc' hx => hr k y us j c x hk hus hc' hx) c3
      rw [← addr_add' _ hspot, Addr.add_add]
      exact hw ad rfl k us j x hus hx
theorem Vw.cp_inv {cs : List V} {u : Value} (h : Vw P I w (.cp cs) u) :
    ∃ (ad : Addr) (us : List Value), u = .pointer (some ad) ∧ I ad.block ∧ ad.spot = none ∧ (∀ (j : Nat) (u : Value), us[j]? = some u → w.cell? ⟨ad.block, ad.off + j, none⟩ = some u) ∧ cs.length = us.length ∧ (∀ (j : Nat) (c : V) (u : Value), cs[j]? = some c → us[j]? = some u → Vw P I w c u) ∧ ∀ u ∈ us, u.oneCell' = true := by
  cases h with
  | cp _ ad us hI hs hw hlen hr h1 => exact ⟨ad, us, rfl, hI, hs, hw, hlen, hr, h1⟩
theorem Vw.cp_drop {cs : List V} {ad : Addr} (n : Nat) (h : Vw P I w (.cp cs) (.pointer (some ad))) : Vw P I w (.cp (cs.drop n)) (.pointer (some (ad.add n))) := by
  cases h with
  | cp _ _ us hI hs hw hlen hr h1 =>
    rw [addr_add' ad hs]
    refine .cp (cs.drop n) _ (us.drop n) hI rfl (fun j x hx => ?_) (by simp [hlen]) (fun j c u hc hu => hr (n + j) c u (by simpa using hc) (by simpa using hu)) (fun x hx => h1 x (List.mem_of_mem_drop hx))
    have := hw (n + j) x (by simpa using hx)
    simp only [Nat.add_assoc] at this ⊢
    exact this
theorem run_load_cell {ad : Addr} {u : Value} (h : w.cell? ad = some u) : (load ad).run P w = .ok u w := by simp [load, Sem.run, h]
theorem vnum_spec {r : Operand → V} {ρ : Operand → Value} (hr : ∀ x, Rel P I w R N true (r x) (ρ x) []) {x : Option Operand} {n : Option Int} (h : vnum x r = some n) : (x = none ∧ n = none) ∨ ∃ y k i, x = some y ∧ n = some i ∧ ρ y = .int k i := by
  unfold vnum at h
  split at h
  · exact .inl ⟨rfl, by simpa using h.symm⟩
  · rename_i y
    split at h
    · rename_i k i hy
      have := hr y
      rw [hy] at this
      exact .inr ⟨y, k, i, rfl, by simpa using h.symm, this.sc_eq⟩
    · simp at h
theorem isZero_spec {r : Operand → V} {ρ : Operand → Value} (hr : ∀ x, Rel P I w R N true (r x) (ρ x) []) {x : Option Operand} (h : isZero (vnum x r) = true) : x = none ∨ ∃ y k, x = some y ∧ ρ y = .int k 0 := by
  unfold isZero at h
  split at h
  · rename_i hv
    rcases vnum_spec hr hv with ⟨rfl, _⟩ | ⟨y, k, i, _, h0, _⟩
    · exact .inl rfl
    · cases h0
  · rename_i hv
    rcases vnum_spec hr hv with ⟨_, h0⟩ | ⟨y, k, i, rfl, h0, hy⟩
    · cases h0
    · exact .inr ⟨y, k, rfl, by rw [hy]; cases h0; rfl⟩
  · cases h
theorem run_bounds {r : Operand → V} {ρ : Operand → Value} (hr : ∀ x, Rel P I w R N true (r x) (ρ x) []) {lo hi : Option Operand} {l h : Option Int} (hl : vnum lo r = some l) (hh : vnum hi r = some h) (b : Bool) (len cap : Nat) (hc : len ≤ cap)
    {w2 : World} (h0 : 0 ≤ l.getD 0) (h1 : l.getD 0 ≤ h.getD len) (h2 : h.getD len ≤ len) : (Instr.sliceBounds b len cap (lo.map ρ) (hi.map ρ) none).run P w2 = .ok ((l.getD 0).toNat, (h.getD len).toNat, cap) w2 := by
  have bnd : ∀ (k : IntKind) (i : Int) (y : Nat) (code : BoundsCode), 0 ≤ i → i ≤ y → (Instr.sliceBound (.int k i) y code).run P w2 = .ok i.toNat w2 := fun k i y code a b => run_sliceBound w2 k i y code a b
  unfold Instr.sliceBounds
  rcases vnum_spec hr hl with ⟨rfl, rfl⟩ | ⟨y, k, i, rfl, rfl, hy⟩ <;> rcases vnum_spec hr hh with ⟨rfl, rfl⟩ | ⟨z, k', j, rfl, rfl, hz⟩ <;> simp only [Option.getD_none, Option.getD_some] at h0 h1 h2 ⊢
  · simp
  · simp [hz, bnd k' j cap _ (by omega) (by omega)]
  · simp [hy, bnd k i len _ (by omega) (by omega)]
  · simp [hy, hz, bnd k' j cap _ (by omega) (by omega), bnd k i j.toNat _ (by omega) (by omega)]
/-- An array's length, and its elements' size. -/
def varr (P : Program) (t : Nat) : Option (Nat × Nat) := match P.underlying t with
  | some (.array n e) => match szOf P e with
    | some sz => some (n, sz)
    | none => none
  | _ => none
theorem varr_spec {P : Program} {t n sz : Nat} (h : varr P t = some (n, sz)) : ∃ e, P.underlying t = some (.array n e) ∧ szOf P e = some sz := by
  unfold varr at h
  split at h
  · rename_i n' e hu
    split at h
    · rename_i sz' hs
      simp only [Option.some.injEq, Prod.mk.injEq] at h
      obtain ⟨rfl, rfl⟩ := h
      exact ⟨e, hu, hs⟩
    · cases h
  · cases h
/-- An element's place in an array. -/
theorem run_indexArr {P : Program} {w : World} {t e n sz : Nat} {ad : Addr} {k : IntKind} {i : Int} (h : P.underlying t = some (.array n e)) (hs : szOf P e = some sz) (h0 : 0 ≤ i) (h1 : i < n) :
    (Instr.indexAt t (.pointer (some ad)) (.int k i)).run P w = .ok (.pointer (some (ad.add (i.toNat * sz)))) w := by
  have hz : (sizeOf e).run P w = .ok sz w := run_sizeOf hs
  simp [Instr.indexAt, run_underlying h, asIntOf, Instr.sureAddr, h0, h1, hz]
theorem isSlice_spec {v : V} {u : Value} {f : List Nat} (h : Rel P I w R N true v u f) (hv : isSlice v = true) : ∃ A L cap, u = .slice A L cap := by
  cases h with
  | leaf _ _ _ hb h => cases h <;> simp [isSlice] at hv <;> exact ⟨_, _, _, rfl⟩
  | ow n hn L cap A hR => exact ⟨_, _, _, rfl⟩
  | sb => exact ⟨_, _, _, rfl⟩
  | row => simp [isSlice] at hv
  | _ => simp [isSlice] at hv
theorem run_part_one {t off : Nat} {us : List Value} {u : Value} (w2 : World) (h : vagg P t = some false) (hu : us[off]? = some u) : (part t us.toArray off).run P w2 = .ok u w2 := by
  have hu' : us.toArray[off]? = some u := by simpa using hu
  simp [part, run_isAgg h, hu']
theorem RelL.sc_at {cs : List V} {us : List Value} {N : Nat} {R : Nat → Value} {t : Bool} (h : RelL P I w R N t cs us []) {j : Nat} {v : Value} (hc : cs[j]? = some (.sc v)) : us[j]? = some v := by
  obtain ⟨u, g, hu, hp, _⟩ := h.get hc
  rw [hu, hp.sc_eq]
theorem veqF_sound (w2 : World) {t1 t2 : Bool} {R1 R2 : Nat → Value} {N1 N2 : Nat} {w : World} {d : Nat} : ∀ (fs : List Field) {xs ys : List V} {us vs : List Value} {r : Bool}, veqF P fs xs ys = some r → RelL P I w R1 N1 t1 xs us [] → RelL P I w R2 N2 t2 ys vs [] →
    (Op.eqFields (d + 1) us.toArray vs.toArray fs).run P w2 = .ok r w2
  | [], xs, ys, us, vs, r, h, hx, hy => by simp [veqF] at h; subst h; rfl
  | f :: fs, xs, ys, us, vs, r, h, hx, hy => by
    unfold veqF at h
    split at h
    · rename_i hn
      simp only [Op.eqFields, if_pos hn]
      split at h
      · rename_i k a k' b hag h1 h2
        split at h
        · rename_i kk r' hk hr
          split at h
          case isFalse => simp at h
          rename_i hkk
          subst hkk
          obtain rfl := Option.some.inj h
          have ih := veqF_sound w2 (d := d) fs hr hx hy
          simp only [Sem.run_bind, run_part_one w2 hag (hx.sc_at h1), run_part_one w2 hag (hy.sc_at h2), Result.andThen_ok, run_equalIn_int w2 d f.type k kk a b (vkind_spec hk)]
          cases hab : (a == b)
          · simp
          · simp only [Bool.not_true, Bool.false_eq_true, if_false, Bool.true_and]; exact ih
        · simp at h
      · rename_i a b hag h1 h2
        split at h
        · rename_i r' hk hr
          obtain rfl := Option.some.inj h
          have ih := veqF_sound w2 (d := d) fs hr hx hy
          simp only [Sem.run_bind, run_part_one w2 hag (hx.sc_at h1), run_part_one w2 hag (hy.sc_at h2), Result.andThen_ok, run_equalIn_string w2 d f.type a b (vstr_spec hk), ← beq_toListBytes]
          cases hab : (a == b)
          · simp
          · simp only [Bool.not_true, Bool.false_eq_true, if_false, Bool.true_and]; exact ih
        · simp at h
      · rename_i a b hag h1 h2
        split at h
        · rename_i r' hk hr
          obtain rfl := Option.some.inj h
          have ih := veqF_sound w2 (d := d) fs hr hx hy
          have hb : P.underlying f.type = some .bool := by
            unfold vbool at hk
            split at hk
            · assumption
            · simp at hk
          simp only [Sem.run_bind, run_part_one w2 hag (hx.sc_at h1), run_part_one w2 hag (hy.sc_at h2), Result.andThen_ok, run_equalIn_bool' w2 d f.type a b hb]
          cases hab : (a == b)
          · simp
          · simp only [Bool.not_true, Bool.false_eq_true, if_false, Bool.true_and]; exact ih
        · simp at h
      · simp at h
    · simp at h
theorem vseq_sound {t1 t2 : Bool} {R1 R2 : Nat → Value} {N1 N2 : Nat} {w : World} {op : BinOp} {t : Nat} {xs ys : List V} {us vs : List Value} {b : Bool} (w2 : World) (x y : Operand) (h : vseq P op t xs ys = some b) (hx : RelL P I w R1 N1 t1 xs us []) (hy : RelL P I w R2 N2 t2 ys vs []) :
    (do eqGuard op t x y (.agg us.toArray) (.agg vs.toArray); binOp op t (.agg us.toArray) (.agg vs.toArray) : Sem Value).run P w2 = .ok (.bool b) w2 := by
  unfold vseq at h
  split at h
  · rename_i fs hu hs hg
    have hf : P.fieldsOf t = fs := by unfold Program.fieldsOf; rw [hu]
    have ht : P.underlying t = some (.struct (P.fieldsOf t)) := by rw [hf]; exact hu
    rw [Sem.run_bind, run_eqGuard_agg w2 op t x y _ _ hg, Result.andThen_ok]
    split at h
    · rename_i b' he
      obtain rfl := Option.some.inj h
      rw [run_eql_struct, run_equalIn_struct w2 9999 t _ _ ht hs, hf, veqF_sound w2 (d := 9998) fs.toList he hx hy]
      rfl
    · rename_i b' he
      obtain rfl := Option.some.inj h
      rw [run_neq_struct, run_equalIn_struct w2 9999 t _ _ ht hs, hf, veqF_sound w2 (d := 9998) fs.toList he hx hy]
      rfl
    · simp at h
  · simp at h
theorem vn_sound {o : Oper} {r : Operand → V} {ρ : Operand → Value} (hr : ∀ x, Rel P I w R N true (r x) (ρ x) []) {v : V} {its its' : List It} {p : List Prop} (h : vn P o r its = some (v, its', p)) (hp : conj p) :
    ∃ u, (∀ w2, Same w w2 → (execOp ρ o).run P w2 = .ok (.value u) w2) ∧ Rel P I w R N true v u [] := by
  have sc : ∀ {v : Value}, flatB v = true → Rel P I w R N true (.sc v) v [] := fun h => .leaf _ _ _ rfl (.sc _ h)
  unfold vn at h
  cases hop : o.op with
  | move x => simp only [hop, Option.some.injEq, Prod.mk.injEq] at h; obtain ⟨rfl, _, _⟩ := h; exact ⟨ρ x, fun w2 hSm => by simp [execOp, hop], (hr x).nrm _⟩
  | assign x => simp only [hop, Option.some.injEq, Prod.mk.injEq] at h; obtain ⟨rfl, _, _⟩ := h; exact ⟨ρ x, fun w2 hSm => by simp [execOp, hop], (hr x).nrm _⟩
  | pick c x y =>
    simp only [hop] at h
    split at h
    · rename_i b g its2 hb
      simp only [Option.some.injEq, Prod.mk.injEq] at h
      obtain ⟨rfl, _, rfl⟩ := h
      have hc := hr c
      rw [hb] at hc
      have hc' := hc.sc_eq
      have hp : b = g := hp
      subst hp
      cases b with
      | true => exact ⟨ρ x, fun w2 hSm => by simp [execOp, hop, hc', asBool], (hr x).nrm _⟩
      | false => exact ⟨ρ y, fun w2 hSm => by simp [execOp, hop, hc', asBool], (hr y).nrm _⟩
    · simp at h
  | binOp op t x y ty =>
    simp only [hop] at h
    split at h
    · rename_i a b ha hb
      split at h
      · rename_i v0 p0 hv0
        simp only [Option.some.injEq, Prod.mk.injEq] at h
        obtain ⟨rfl, _, rfl⟩ := h
        have hx := hr x
        have hy := hr y
        rw [ha] at hx
        rw [hb] at hy
        refine ⟨v0, ?_, sc (vbin_flat hv0)⟩
        intro w2 hSm
        have := run_vbin w2 x y hv0 hp
        simp only [execOp, hop, hx.sc_eq, hy.sc_eq]
        simp only [Sem.run_bind] at this ⊢
        rw [this]
        rfl
      · simp at h
    · rename_i xs ys ha hb
      split at h
      · rename_i b hv0
        simp only [Option.some.injEq, Prod.mk.injEq] at h
        obtain ⟨rfl, _, rfl⟩ := h
        have hx := hr x
        have hy := hr y
        rw [ha] at hx
        rw [hb] at hy
        obtain ⟨us, e1, r1, _⟩ := hx.agg_inv
        obtain ⟨vs, e2, r2, _⟩ := hy.agg_inv
        refine ⟨.bool b, ?_, sc rfl⟩
        intro w2 hSm
        have := vseq_sound w2 x y hv0 r1 r2
        simp only [execOp, hop, e1, e2]
        simp only [Sem.run_bind] at this ⊢
        rw [this]
        rfl
      · simp at h
    · simp at h
  | unOp op t x =>
    cases op <;> simp only [hop] at h <;> try (simp at h; done)
    split at h
    · rename_i b hb
      simp only [Option.some.injEq, Prod.mk.injEq] at h
      obtain ⟨rfl, _, rfl⟩ := h
      have hx := hr x
      rw [hb] at hx
      exact ⟨.bool (!b), fun w2 hSm => by simp [execOp, hop, hx.sc_eq, Op.unary], sc rfl⟩
    · simp at h
  | convert s d x =>
    simp only [hop] at h
    split at h
    · rename_i k' n k2 k hx hk2 hk
      simp only [Option.some.injEq, Prod.mk.injEq] at h
      obtain ⟨rfl, _, rfl⟩ := h
      have h1 := hr x
      rw [hx] at h1
      have hu := vkind_spec hk
      have hu2 := vkind_spec hk2
      refine ⟨.int k (k.wrap n), ?_, sc rfl⟩
      simp [execOp, hop, h1.sc_eq, convert, run_underlying hu, run_underlying hu2, Conv.intToInt]
    · rename_i k' n k2 hx hk2 hk
      split at h
      · rename_i hs
        simp only [Option.some.injEq, Prod.mk.injEq] at h
        obtain ⟨rfl, _, rfl⟩ := h
        have h1 := hr x
        rw [hx] at h1
        have hu2 := vkind_spec hk2
        refine ⟨.string (Utf8.encode n), ?_, sc rfl⟩
        simp [execOp, hop, h1.sc_eq, convert, run_underlying (vstr_spec hs), run_underlying hu2, Conv.intToString]
      · simp at h
    · simp at h
  | fieldAddr s x f =>
    simp only [hop] at h
    have hx := hr x
    split at h
    · rename_i d o' off n hd ho
      simp only [Option.some.injEq, Prod.mk.injEq] at h
      obtain ⟨rfl, _, rfl⟩ := h
      rw [hd] at hx
      obtain ⟨g, hn, hR, hρ, _⟩ := hx.ptr_inv
      refine ⟨_, fun w2 hSm => by simp only [execOp, hop, hρ, Sem.run_bind, run_fieldAt ho, Result.andThen_ok, Sem.run_pure]; rfl, ?_⟩
      rw [addr_add]
      exact .ptr d (o' + off) g hn hR
    · rename_i cs off n hd ho
      simp only [Option.some.injEq, Prod.mk.injEq] at h
      obtain ⟨rfl, _, rfl⟩ := h
      rw [hd] at hx
      obtain ⟨hx, _⟩ := hx.vw_leaf rfl
      obtain ⟨ad, us, hu, _⟩ := hx.cp_inv
      rw [hu] at hx
      exact ⟨_, fun w2 hSm => by simp only [execOp, hop, hu, Sem.run_bind, run_fieldAt ho, Result.andThen_ok, Sem.run_pure], .leaf _ _ _ rfl (hx.cp_drop off)⟩
    · rename_i d sz i o' off n hd ho
      simp only [Option.some.injEq, Prod.mk.injEq] at h
      obtain ⟨rfl, _, rfl⟩ := h
      rw [hd] at hx
      obtain ⟨g, o2, L, cap, hn, hR, hρ, _⟩ := hx.ep_inv
      refine ⟨_, fun w2 hSm => by simp only [execOp, hop, hρ, Sem.run_bind, run_fieldAt ho, Result.andThen_ok, Sem.run_pure]; rfl, ?_⟩
      rw [addr_add, Nat.add_assoc, Nat.add_assoc]
      exact .ep d sz i (o' + off) g o2 L cap hn hR
    · simp at h
  | indexAddr t x i =>
    simp only [hop] at h
    split at h
    · rename_i e els k n e' y its2 hx hi he
      split at h
      · rename_i hee
        subst hee
        simp only [Option.some.injEq, Prod.mk.injEq] at h
        obtain ⟨rfl, _, rfl⟩ := h
        obtain ⟨h0, hy⟩ := hp
        have h2 := hr x
        have h3 := hr i
        rw [hx] at h2
        rw [hi] at h3
        obtain ⟨hk, _⟩ := List.getElem?_eq_some_iff.1 hy
        have h1 : n < (els.length : Int) := by omega
        obtain ⟨A, cap, sz, hu, hs, hr'⟩ := h2.elem hy
        exact ⟨_, fun w2 hSm => by simp only [execOp, hop, hu, h3.sc_eq, Sem.run_bind, run_indexAt he hs h0 h1, Result.andThen_ok, Sem.run_pure], .leaf _ _ _ rfl hr'⟩
      · simp at h
    · simp at h
  | index t x i =>
    simp only [hop] at h
    split at h
    · rename_i s k n hx hi
      split at h
      · rename_i hs
        simp only [Option.some.injEq, Prod.mk.injEq] at h
        obtain ⟨rfl, _, rfl⟩ := h
        simp only [conj] at hp
        obtain ⟨h0, h1⟩ := hp
        have h2 := hr x
        have h3 := hr i
        rw [hx] at h2
        rw [hi] at h3
        have hk : n.toNat < s.size := by omega
        refine ⟨.int .u8 ((s.data.getD n.toNat 0).toNat), ?_, sc rfl⟩
        have hd : s.data.getD n.toNat 0 = s[n.toNat] := by
          rw [Array.getD_eq_getD_getElem?, Array.getElem?_eq_getElem (by simpa using hk)]
          rfl
        simp [execOp, hop, h2.sc_eq, h3.sc_eq, Instr.index, asIntOf, run_underlying (vstr_spec hs), h0, hk, hd]
      · simp at h
    · simp at h
  | field ty x f =>
    simp only [hop] at h
    have hx := hr x
    split at h
    · rename_i cs off n ft hd ho hft
      rw [hd] at hx
      obtain ⟨us, hu, hrl, h1⟩ := hx.agg_inv
      have hf : ∀ w2, (Instr.field ty (.agg us.toArray) f).run P w2 = (part ft us.toArray off).run P w2 := fun w2 => by
        unfold voff at ho
        unfold vftype at hft
        split at ho
        · rename_i fs hun
          rw [hun] at hft
          split at ho
          · rename_i d hd2
            simp only [hd2, Option.map_some, Option.some.injEq] at hft
            subst hft
            split at ho
            · simp only [Option.some.injEq, Prod.mk.injEq] at ho
              obtain ⟨rfl, _⟩ := ho
              simp [Instr.field, run_underlying hun, hd2, asAgg]
            · simp at ho
          · simp at ho
        · simp at ho
      split at h
      · rename_i hag
        split at h
        · rename_i hlen
          simp only [Option.some.injEq, Prod.mk.injEq] at h
          obtain ⟨rfl, _, _⟩ := h
          have hsz : szOf P ft = some n := by
            unfold voff at ho
            unfold vftype at hft
            split at ho
            · rename_i fs hun
              rw [hun] at hft
              split at ho
              · rename_i d hd2
                simp only [hd2, Option.map_some, Option.some.injEq] at hft
                subst hft
                split at ho
                · rename_i m hm
                  simp only [Option.some.injEq, Prod.mk.injEq] at ho
                  rw [hm]; exact congrArg some ho.2
                · simp at ho
              · simp at ho
            · simp at ho
          refine ⟨.agg ((us.drop off).take n).toArray, fun w2 _ => ?_, Rel.agg_mk (PwL.of_bare ?_ fun j c u hc hu' => ?_) fun y hy => h1 y (List.mem_of_mem_drop (List.mem_of_mem_take hy))⟩
          · have hl := hrl.len
            have hz : (sizeOf ft).run P w2 = .ok n w2 := run_sizeOf hsz
            simp only [execOp, hop, hu, Sem.run_bind, hf w2, part, run_isAgg hag, Result.andThen_ok, if_true, hz, Sem.run_pure]
            congr 2
            congr 1
            apply Array.ext'
            simp
          · rw [List.length_take, List.length_drop, List.length_take, List.length_drop, hrl.len]
          · have e1 : cs[off + j]? = some c := by
              rw [List.getElem?_take] at hc
              split at hc
              · rwa [List.getElem?_drop] at hc
              · cases hc
            have e2 : us[off + j]? = some u := by
              rw [List.getElem?_take] at hu'
              split at hu'
              · rwa [List.getElem?_drop] at hu'
              · cases hu'
            exact hrl.bare _ _ _ e1 e2
        · simp at h
      · rename_i hag
        split at h
        · rename_i c hc
          simp only [Option.some.injEq, Prod.mk.injEq] at h
          obtain ⟨rfl, _, _⟩ := h
          obtain ⟨u, g, hu2, hp2, hg⟩ := hrl.get hc
          have hg0 : g = [] := by
            cases g with
            | nil => rfl
            | cons b l => exact absurd (hg b (by simp)) (by simp)
          subst hg0
          exact ⟨u, fun w2 _ => by simp only [execOp, hop, hu, Sem.run_bind, hf w2, run_part_one w2 hag hu2, Result.andThen_ok, Sem.run_pure], hp2⟩
        · simp at h
      · simp at h
    · simp at h
  | extract x i =>
    simp only [hop] at h
    split at h
    · rename_i vs hx
      have h2 := hr x
      rw [hx] at h2
      have h : vs[i]? = some v := by
        split at h
        · rename_i v0 hv0
          simp only [Option.some.injEq, Prod.mk.injEq] at h
          rw [← h.1]; exact hv0
        · simp at h
      obtain ⟨us, hu, hrl⟩ := h2.tup_inv
      obtain ⟨hj, _⟩ := List.getElem?_eq_some_iff.1 h
      have hui : us[i]? = some (us[i]'(by rw [← hrl.len]; exact hj)) := List.getElem?_eq_getElem _
      exact ⟨_, fun w2 hSm => by simp [execOp, hop, hu, Instr.extract, hui], hrl.bare i v _ h hui⟩
    · simp at h
  | makeFunc fn first caps =>
    cases fn <;> simp only [hop] at h <;> try (simp at h; done)
    rename_i g
    split at h
    · rename_i hf
      simp only [Option.some.injEq, Prod.mk.injEq] at h
      obtain ⟨rfl, _, rfl⟩ := h
      obtain ⟨hf, hnt⟩ := hf
      obtain rfl : first = #[] := Array.toList_inj.1 (List.eq_nil_of_length_eq_zero hf)
      refine ⟨.func (.func g) #[] (caps.map ρ), fun w2 hSm => by simp [execOp, hop, Instr.makeFunc], ?_⟩
      have := Rel.fn (P := P) (I := I) (w := w) (R := R) (N := N) true g (caps.toList.map r) (caps.toList.map ρ) hnt (by simp) (fun j c u hc hu => by
        rw [List.getElem?_map] at hc hu
        cases hj : caps.toList[j]? with
        | none => simp [hj] at hc
        | some y =>
          simp [hj] at hc hu
          subst hc hu
          exact hr y)
      have e : (caps.toList.map ρ).toArray = caps.map ρ := by rw [← Array.toList_map, Array.toArray_toList]
      rwa [e] at this
    · simp at h
  | nilCheck x =>
    simp only [hop] at h
    have h2 := hr x
    split at h <;> simp only [Option.some.injEq, Prod.mk.injEq, reduceCtorEq] at h
    all_goals
      rename_i hx
      obtain ⟨rfl, _, rfl⟩ := h
      rw [hx] at h2
      obtain ⟨ad, hu⟩ : ∃ ad, ρ x = .pointer (some ad) := by
        generalize ρ x = u at h2
        cases h2 with
        | leaf _ _ _ hb h => cases h <;> first | exact ⟨_, rfl⟩ | simp [V.leafB] at hb
        | _ => exact ⟨_, rfl⟩
      rw [hu] at h2
      exact ⟨_, fun w2 hSm => by simp [execOp, hop, hu], h2⟩
  | load t x =>
    simp only [hop] at h
    have h2 := hr x
    split at h
    · rename_i cs n hx ha hs
      split at h
      · rename_i hn
        simp only [Option.some.injEq, Prod.mk.injEq] at h
        obtain ⟨rfl, _, rfl⟩ := h
        rw [hx] at h2
        obtain ⟨ad, us, hu, hI, hsp, hw, hlen, hrr, h1⟩ := (h2.vw_leaf rfl).1.cp_inv
        refine ⟨.agg (us.take n).toArray, ?_, ?_⟩
        · intro w2 hSm
          have hl : (loadCells ad n).run P w2 = .ok (us.take n).toArray w2 := by
            have := run_loadCells_list (P := P) w2 ad (us.take n) (fun j v hv => by
              refine hSm.cell ?_
              rw [addr_add' ad hsp]
              rw [List.getElem?_take] at hv
              split at hv
              · exact hw j v hv
              · simp at hv)
            rwa [List.length_take, Nat.min_eq_left (by omega)] at this
          simp only [execOp, hop, hu, Instr.loadAt, Instr.sureAddr, loadVar, Sem.run_bind, Sem.run_pure, Result.andThen_ok, run_isAgg ha, run_sizeOf hs, hl, if_true]
        · refine Rel.agg_mk (.of_bare (by simp [hlen]) fun j c u hc hu => ?_) (fun x hx => h1 x (List.mem_of_mem_take hx))
          rw [List.getElem?_map, List.getElem?_take] at hc
          rw [List.getElem?_take] at hu
          split at hc
          · rename_i hj
            rw [if_pos hj] at hu
            cases hcj : cs[j]? with
            | none => simp [hcj] at hc
            | some y =>
              simp only [hcj, Option.map_some, Option.some.injEq] at hc
              subst hc
              exact (hrr j y u hcj hu).rel true
          · simp at hc
      · simp at h
    · rename_i c cs hx ha
      simp only [Option.some.injEq, Prod.mk.injEq] at h
      obtain ⟨rfl, _, rfl⟩ := h
      rw [hx] at h2
      obtain ⟨ad, us, hu, hI, hsp, hw, hlen, hrr, h1⟩ := (h2.vw_leaf rfl).1.cp_inv
      cases us with
      | nil => simp at hlen
      | cons u us =>
        have h0 := hw 0 u rfl
        have had : (⟨ad.block, ad.off + 0, none⟩ : Addr) = ad := by
          obtain ⟨b, o, s⟩ := ad
          simp only at hsp
          subst hsp
          rfl
        rw [had] at h0
        refine ⟨u, fun w2 hSm => ?_, (hrr 0 c u rfl rfl).rel true⟩
        simp only [execOp, hop, hu, Instr.loadAt, Instr.sureAddr, loadVar, Sem.run_bind, Sem.run_pure, Result.andThen_ok, run_isAgg ha, Bool.false_eq_true, if_false, run_load_cell (hSm.cell h0)]
    · simp at h
  | slice t x lo hi mx =>
    cases mx with
    | some mx =>
      simp only [hop] at h
      split at h
      · rename_i e h' he hsl hlo hmx
        split at h
        · rename_i hhi
          split at h
          · rename_i sz hsz
            simp only [Option.some.injEq, Prod.mk.injEq] at h
            obtain ⟨rfl, _, rfl⟩ := h
            obtain ⟨A, L, cap, hu⟩ := isSlice_spec (hr x) hsl
            have hb : ∀ w2, (Instr.sliceBounds true L cap (lo.map ρ) (some (ρ h')) (some (ρ mx))).run P w2 = .ok (0, 0, 0) w2 := fun w2 => by
              rcases isZero_spec hr hmx with h0 | ⟨y, k, h0, hy⟩
              · cases h0
              · cases h0
                rcases isZero_spec hr hhi with h0 | ⟨y2, k2, h0, hy2⟩
                · cases h0
                · cases h0
                  unfold Instr.sliceBounds
                  have bnd : ∀ (k : IntKind) (y : Nat) (code : BoundsCode), (Instr.sliceBound (.int k 0) y code).run P w2 = .ok 0 w2 := fun k y code => by simpa using run_sliceBound w2 k 0 y code (by omega) (by omega)
                  rcases isZero_spec hr hlo with rfl | ⟨y3, k3, rfl, hy3⟩
                  · simp [hy, hy2, bnd]
                  · simp [hy, hy2, hy3, bnd]
            have hszr : ∀ w2, (sizeOf e).run P w2 = .ok sz w2 := fun w2 => run_sizeOf hsz
            exact ⟨.slice A 0 0, fun w2 hSm => by simp [execOp, hop, hu, Instr.sliceAt, Instr.slice, run_underlying (velem_spec he), hb, hszr], .leaf _ _ _ rfl (.nl e A)⟩
          · simp at h
        · simp at h
      · simp at h
    | none =>
      simp only [hop] at h
      have h2 := hr x
      split at h
      · rename_i s l hh hx hl hhh
        split at h
        · rename_i hs
          simp only [Option.some.injEq, Prod.mk.injEq] at h
          obtain ⟨rfl, _, rfl⟩ := h
          simp only [conj] at hp
          obtain ⟨a1, a2, a3⟩ := hp
          rw [hx] at h2
          have hb := fun w2 : World => run_bounds (w := w) (w2 := w2) hr hl hhh false s.size s.size (Nat.le_refl _) a1 a2 a3
          refine ⟨_, ?_, sc rfl⟩
          simp [execOp, hop, h2.sc_eq, Instr.sliceAt, Instr.slice, run_underlying (vstr_spec hs), hb]
        · simp at h
      · rename_i e els l hh hx hl hhh
        split at h
        case h_2 => simp at h
        rename_i e' he
        split at h
        · rename_i hee
          subst hee
          simp only [Option.some.injEq, Prod.mk.injEq] at h
          obtain ⟨rfl, _, rfl⟩ := h
          simp only [conj] at hp
          obtain ⟨a1, a2, a3⟩ := hp
          rw [hx] at h2
          obtain ⟨h2, _⟩ := h2.vw_leaf rfl
          generalize hu : ρ x = u at h2
          cases h2 with
          | sl _ _ _ A cap sz uss hs hz hlc hm hn hI hw hlen hc hrr =>
            have hb := fun w2 : World => run_bounds (w := w) (w2 := w2) hr hl hhh true els.length cap hlc a1 a2 a3
            have hsz : ∀ w2, (sizeOf e).run P w2 = .ok sz w2 := fun w2 => run_sizeOf hs
            generalize hL : (l.getD 0).toNat = L at *
            generalize hH : (hh.getD (els.length : Int)).toNat = H at *
            have hLH : L ≤ H := by omega
            have hHl : H ≤ els.length := by omega
            refine ⟨.slice (if cap = L then A else A.map (·.add (L * sz))) (H - L) (cap - L), fun w2 hSm => by simp [execOp, hop, hu, Instr.sliceAt, Instr.slice, run_underlying (velem_spec he), hb, hsz], .leaf _ _ _ rfl ?_⟩
            have hlen' : ((els.take H).drop L).length = H - L := by rw [List.length_drop, List.length_take]; omega
            have hget : ∀ {α : Type} (l : List α) (i : Nat) (x : α), ((l.take H).drop L)[i]? = some x → l[L + i]? = some x ∧ L + i < H := fun l i x hi => by
              rw [List.getElem?_drop, List.getElem?_take] at hi
              split at hi
              · exact ⟨hi, by assumption⟩
              · simp at hi
            rw [← hlen']
            refine .sl false e ((els.take H).drop L) _ (cap - L) sz ((uss.take H).drop L) hs hz (by omega) (by omega) (fun hA => ?_) (fun ad had hp => ?_) (fun ad had i us j y hus hy => ?_) (by simp [hlen]) (fun i x us hx hus => hc _ x us (hget _ _ _ hx).1 (hget _ _ _ hus).1) (fun i x us j c u hx hus hc' hu' => hrr _ x us j c u (hget _ _ _ hx).1 (hget _ _ _ hus).1 hc' hu')
            · have : A = none := by
                cases A with
                | none => rfl
                | some a => split at hA <;> simp at hA
              have := hn this
              subst this
              simp
            · split at had
              · exact hI ad had (by omega)
              · cases A with
                | none => simp at had
                | some a =>
                  simp only [Option.map_some, Option.some.injEq] at had
                  subst had
                  have : (a.add (L * sz)).block = a.block := by unfold Addr.add; split <;> rfl
                  rw [this]
                  exact hI a rfl (by omega)
            · obtain ⟨hus', hlt⟩ := hget _ _ _ hus
              split at had
              · rename_i hcap
                exfalso
                omega
              · cases A with
                | none => simp at had
                | some a =>
                  simp only [Option.map_some, Option.some.injEq] at had
                  subst had
                  rw [Addr.add_add]
                  have := hw a rfl (L + i) us j y hus' hy
                  rw [Nat.add_mul] at this
                  rw [← Nat.add_assoc]
                  exact this
        · simp at h
      · rename_i e l hh hx hl hhh
        split at h
        · rename_i e' sz he hs
          split at h
          · rename_i hee
            subst hee
            simp only [Option.some.injEq, Prod.mk.injEq] at h
            obtain ⟨rfl, _, rfl⟩ := h
            simp only [conj] at hp
            obtain ⟨a1, a2, a3⟩ := hp
            rw [hx] at h2
            obtain ⟨h2, _⟩ := h2.vw_leaf rfl
            generalize hu : ρ x = u at h2
            cases h2 with
            | nl _ A =>
              have hb := fun w2 : World => run_bounds (w := w) (w2 := w2) hr hl hhh true 0 0 (Nat.le_refl _) a1 a2 a3
              have hsz : ∀ w2, (sizeOf e).run P w2 = .ok sz w2 := fun w2 => run_sizeOf hs
              have hL : (l.getD 0).toNat = 0 := by omega
              have hH : (hh.getD ((0 : Nat) : Int)).toNat = 0 := by omega
              rw [hL, hH] at hb
              exact ⟨.slice A 0 0, fun w2 hSm => by simp [execOp, hop, hu, Instr.sliceAt, Instr.slice, run_underlying (velem_spec he), hb, hsz], .leaf _ _ _ rfl (.nl e A)⟩
          · simp at h
        · simp at h
      · simp at h
  | call c =>
    simp only [hop] at h
    obtain ⟨callee, args, argTypes⟩ := c
    cases callee with
    | value f => simp at h
    | invoke a b => simp at h
    | builtin b =>
      obtain ⟨args⟩ := args
      obtain ⟨argTypes⟩ := argTypes
      split at h
      · rename_i x t hb ha ht
        simp only at ha ht
        subst ha ht
        simp only [Callee.builtin.injEq] at hb
        subst hb
        have h2 := hr x
        split at h
        · rename_i s hx
          split at h
          · rename_i hs
            simp only [Option.some.injEq, Prod.mk.injEq] at h
            obtain ⟨rfl, _, rfl⟩ := h
            rw [hx] at h2
            refine ⟨.int .i64 s.size, ?_, sc rfl⟩
            simp [execOp, hop, resolve, invoke, builtin, h2.sc_eq, Builtin.len_, run_underlying (vstr_spec hs), goInt]
          · simp at h
        · rename_i e els hx
          split at h
          · rename_i e' he
            simp only [Option.some.injEq, Prod.mk.injEq] at h
            obtain ⟨rfl, _, rfl⟩ := h
            rw [hx] at h2
            obtain ⟨h2, _⟩ := h2.vw_leaf rfl
            generalize hu : ρ x = u at h2
            refine ⟨.int .i64 els.length, ?_, sc rfl⟩
            cases h2
            simp [execOp, hop, resolve, invoke, builtin, hu, Builtin.len_, run_underlying (velem_spec he), goInt]
          · simp at h
        · rename_i e hx
          split at h
          · rename_i e' he
            simp only [Option.some.injEq, Prod.mk.injEq] at h
            obtain ⟨rfl, _, rfl⟩ := h
            rw [hx] at h2
            obtain ⟨h2, _⟩ := h2.vw_leaf rfl
            generalize hu : ρ x = u at h2
            refine ⟨.int .i64 0, ?_, sc rfl⟩
            cases h2
            simp [execOp, hop, resolve, invoke, builtin, hu, Builtin.len_, run_underlying (velem_spec he), goInt]
          · simp at h
        · rename_i n sz lo len hx
          split at h
          · rename_i e' he
            simp only [Option.some.injEq, Prod.mk.injEq] at h
            obtain ⟨rfl, _, rfl⟩ := h
            rw [hx] at h2
            generalize hu : ρ x = u at h2
            refine ⟨.int .i64 len, ?_, sc rfl⟩
            cases h2 with
            | leaf _ _ _ hb => simp [V.leafB] at hb
            | sb => simp [execOp, hop, resolve, invoke, builtin, hu, Builtin.len_, run_underlying (velem_spec he), goInt]
          · simp at h
        · simp at h
      · rename_i x t hb ha ht
        simp only at ha ht
        subst ha ht
        simp only [Callee.builtin.injEq] at hb
        subst hb
        have h2 := hr x
        split at h
        · rename_i e hx
          split at h
          · rename_i e' he
            simp only [Option.some.injEq, Prod.mk.injEq] at h
            obtain ⟨rfl, _, rfl⟩ := h
            rw [hx] at h2
            obtain ⟨h2, _⟩ := h2.vw_leaf rfl
            generalize hu : ρ x = u at h2
            refine ⟨.int .i64 0, ?_, sc rfl⟩
            cases h2
            simp [execOp, hop, resolve, invoke, builtin, hu, Builtin.cap_, run_underlying (velem_spec he), goInt]
          · simp at h
        · simp at h
      · rename_i x y hb ha
        simp only at ha
        subst ha
        simp only [Callee.builtin.injEq] at hb
        subst hb
        split at h
        · rename_i k a k' b hx hy
          simp only [Option.some.injEq, Prod.mk.injEq] at h
          obtain ⟨rfl, _, rfl⟩ := h
          have h2 := hr x
          have h3 := hr y
          rw [hx] at h2
          rw [hy] at h3
          refine ⟨.int k (if a < b then b else a), ?_, sc rfl⟩
          simp [execOp, hop, resolve, invoke, builtin, h2.sc_eq, h3.sc_eq, Builtin.max_, Builtin.max2]
        · simp at h
      · rename_i x y hb ha
        simp only at ha
        subst ha
        simp only [Callee.builtin.injEq] at hb
        subst hb
        split at h
        · rename_i k a k' b hx hy
          simp only [Option.some.injEq, Prod.mk.injEq] at h
          obtain ⟨rfl, _, rfl⟩ := h
          have h2 := hr x
          have h3 := hr y
          rw [hx] at h2
          rw [hy] at h3
          refine ⟨.int k (if b < a then b else a), ?_, sc rfl⟩
          simp [execOp, hop, resolve, invoke, builtin, h2.sc_eq, h3.sc_eq, Builtin.min_, Builtin.min2]
        · simp at h
      · simp at h
  | _ => simp [hop] at h
end
end Go.Proofs.YtdahdpnkppknfaaGreatDoorM
