/- Rows of the frame's own: made, grown. No condition. -/
import Derived.Test.YtdahdpnkppknfaaGreatDoorM7
namespace Go.Proofs.YtdahdpnkppknfaaGreatDoorM
set_option linter.unusedVariables false
set_option linter.unusedSimpArgs false
open Go.RowKit

def tbytes (P : Program) (e : Nat) : Option Nat := (P.info? e).map (·.bytes)
/-- An element that make lays. -/
def zeroEl (P : Program) (e : Nat) : Option V :=
  match vzero P e, vagg P e with
  | some zs, some true => some (.agg zs)
  | some [z], some false => some z
  | _, _ => none
def numbered : Nat → List V → List (Nat × V)
  | _, [] => []
  | k, v :: vs => (k, v) :: numbered (k + 1) vs
def V.flatE (x : V) : Bool := x.cells.all fun c => match c with | .sc _ => true | _ => false
/-- A part of a row. -/
def cutV (els : List V) (lo len : Nat) : List V := match lo with
  | 0 => els.take len
  | lo + 1 => (els.drop (lo + 1)).take len
theorem cutV_eq (els : List V) (lo len : Nat) : cutV els lo len = (els.drop lo).take len := by cases lo <;> rfl
/-- The row that append is given. -/
def rowArg (H : List Blk) (e sz : Nat) : V → Option (List V × List Blk)
  | .nl e' => if e' = e then some ([], H) else none
  | .sb n sz' lo len => match H[n]? with
    | some (.row e' els []) => if e' = e ∧ sz' = sz then some (cutV els lo len, H.set n .dead) else none
    | _ => none
  | .ow n => match H[n]? with
    | some (.row e' els []) => if e' = e then some (els, H.set n .dead) else none
    | _ => none
  | _ => none
/-- Elements that were moved away. -/
def gap (sz len : Nat) : List V := List.replicate len (.agg (List.replicate sz .un))
/-- What append adds. -/
def srcArg (P : Program) (H : List Blk) (e : Nat) : V → It → Option (List V × List Blk × List Prop)
  | .sl false e' els, .cp els' => if e' = e then some (els', H, [els.map V.vw = els']) else none
  | .nl e', .cp _ => if e' = e then some ([], H, []) else none
  | .ow n, .cp els' => match H[n]? with
    | some (.row e' els []) => if e' = e then some (els', H, [els = els', els'.all V.flatE = true]) else none
    | _ => none
  | .sb n sz lo len, .cp els' => match H[n]? with
    | some (.row e' els []) => if e' = e ∧ szOf P e = some sz then some (els', H, [(els.drop lo).take len = els', els'.all V.flatE = true]) else none
    | _ => none
  | .ow n, .mv => match H[n]? with
    | some (.row e' els []) => if e' = e then some (els, H.set n .dead, []) else none
    | _ => none
  | .sb n sz lo len, .mv => match H[n]? with
    | some (.row e' els []) => if e' = e ∧ szOf P e = some sz then some ((els.drop lo).take len, H.set n (.row e' (els.take lo ++ (gap sz len ++ els.drop (lo + len))) []), []) else none
    | _ => none
  | _, _ => none
def vmake (P : Program) (o : Oper) (S : St) (its : List It) : Option (St × List It × List Prop) :=
  match o.op, o.dst with
  | .makeSlice t l c, some d => match velem P t, ev S.G l, ev S.G c with
    | some e, .sc (.int _ n), .sc (.int _ m) => match zeroEl P e, tbytes P e, szOf P e with
      | some z, some by_, some sz => if 0 < sz ∧ z.cells.length = sz then some (⟨S.G.set d (.ow S.H.length), S.H ++ [.row e (List.replicate n.toNat (tidyE P z)) []], S.gv⟩, its, [n = m, 0 ≤ n, n ≤ 9223372036854775807, by_ * n.toNat ≤ 281474976710656]) else none
      | _, _, _ => none
    | _, _, _ => none
  | .buildSlice t len parts, some d => match velem P t with
    | some e => match szOf P e, zeroEl P e with
      | some sz, some _ => if parts.toList.map (·.1) = List.range len ∧ 0 < sz ∧ len * sz ≤ 16777216 ∧ (parts.toList.all fun p => decide ((nrm P e (ev S.G p.2)).cells.length = sz) && (nrm P e (ev S.G p.2)).cells.all V.isCell) = true then
          (match (parts.toList.map fun p => nrm P e (ev S.G p.2)).all fun v => v.cells.all V.leafB with
          | true => some (⟨S.G.set d (.ow S.H.length), S.H ++ [.row e ((parts.toList.map fun p => nrm P e (ev S.G p.2)).map (tidyE P)) []], S.gv⟩, its, [])
          | false => some (⟨S.G.set d (.ow S.H.length), S.H ++ [.row e (List.replicate len .un) (numbered 0 (parts.toList.map fun p => nrm P e (ev S.G p.2)))], S.gv⟩, its, []))
        else none
      | _, _ => none
    | none => none
  | .call c, some d => match c.callee, c.args.toList, c.argTypes.toList, its with
    | .builtin .append, [x, y], [t, t'], it :: its' => match velem P t with
      | some e => match tbytes P e, zeroEl P e with
        | some by_, some z => if t = t' ∧ szOf P e = some z.cells.length ∧ 0 < z.cells.length then
            match rowArg S.H e z.cells.length (nrm P t (ev S.G x)) with
            | some (els, H1) => match srcArg P H1 e (nrm P t (ev S.G y)) it with
              | some (els2, H2, p) => some (⟨S.G.set d (.ow H2.length), H2 ++ [.row e (els ++ els2) []], S.gv⟩, its', p ++ [els.length + els2.length ≤ 9223372036854775807, (els.length + els2.length) * by_ ≤ 140737488355328])
              | none => none
            | none => none
          else none
        | _, _ => none
      | none => none
    | _, _, _, _ => none
  | _, _ => none
theorem look_numbered : ∀ (vs : List V) (k i : Nat), look (numbered k vs) i = if k ≤ i then vs[i - k]? else none
  | [], k, i => by simp [numbered, look]
  | v :: vs, k, i => by
    unfold numbered
    by_cases e : i = k
    · subst e; rw [look_cons_self]; simp
    · rw [look_cons_ne _ _ e, look_numbered vs (k + 1) i]
      by_cases h : k ≤ i
      · rw [if_pos h, if_pos (by omega), show i - k = (i - (k + 1)) + 1 by omega]
        simp
      · rw [if_neg h, if_neg (by omega)]
theorem vw_cells (v : V) : v.vw.cells = v.cells.map V.vw := by
  cases v <;> simp [V.vw, V.cells, vwL_map]
section
variable {P : Program} {R R' : Nat → Value} {N : Nat} {I : Nat → Prop} {w w' : World} {C : Ctx} {S S' : St} {a : Act} {F F' : Nat → List Nat} {t : Bool} {v : V} {u : Value} {f : List Nat}
theorem zeroEl_spec {e : Nat} {z : V} (h : zeroEl P e = some z) : ∃ i zv, P.info? e = some i ∧ i.zero = some zv ∧ (∀ I w R N b, RelL P I w R N b z.cells zv.cells.toList []) ∧ (∀ u ∈ zv.cells.toList, u.oneCell' = true) := by
  unfold zeroEl at h
  split at h
  · rename_i zs hz ha
    simp only [Option.some.injEq] at h
    subst h
    exact vzero_spec hz
  · rename_i z' hz ha
    simp only [Option.some.injEq] at h
    subst h
    obtain ⟨i, zv, h1, h2, h3, h4⟩ := vzero_spec hz
    refine ⟨i, zv, h1, h2, fun I w R N b => ?_, h4⟩
    have h5 := h3 (fun _ => False) default (fun _ => undef) 0 true
    obtain ⟨u, us, g, g', e1, e2, h6, h7⟩ := h5.uncons
    have hc : z'.cells = [z'] := by
      cases z' with
      | agg cs =>
        obtain ⟨us', rfl, _⟩ := h6.agg_inv
        have := h4 (.agg us'.toArray) (by rw [e1]; simp)
        simp [Value.oneCell'] at this
      | _ => rfl
    rw [hc]
    exact h3 I w R N b
  · simp at h
theorem Own.of {e sz n : Nat} {v : Value} {xs : List Value} (h : w.ownsRow 0 e sz v n xs) : Own w e sz v n xs := by
  refine ⟨h.1, ?_⟩
  rcases h.2 with ⟨rfl, rfl⟩ | ⟨g, cap, cur, rfl, _, hg, h1, h2, h3, h4⟩
  · exact ⟨none, 0, rfl, Nat.le_refl _, .inl rfl⟩
  · exact ⟨_, cap, rfl, h1, .inr ⟨g, 0, cur, rfl, .of hg, h2, by simpa using h3, by simpa using h4⟩⟩
theorem fbOf_sub (v : Value) : ∀ b, b ∈ fbOf v → v.ownBlock = some b := fun b hb => by
  unfold fbOf at hb
  split at hb
  · simp at hb; subst hb; rfl
  · simp at hb
theorem run_append_v {t ty e : Nat} {i : TypeInfo} {z : Value} {sz by_ : Nat} (ht : P.underlying t = some (.slice e)) (hi : P.info? e = some i) (hz : i.zero = some z) (his : i.size = sz) (hby : i.bytes = by_) (hzs : z.cells.size = sz) (hsz : 0 < sz)
    {v : Value} {n : Nat} {xs : List Value} (ho : Own w e sz v n xs) {A : Option Addr} {m c : Nat} {news : List Value} (hl : news.length = m * sz) (hn : A = none → m = 0) (hnews : ∀ ad, A = some ad → ∀ j u, news[j]? = some u → w.cell? (ad.add j) = some u) (h1 : ∀ u ∈ news, u.oneCell' = true)
    (h63 : n + m ≤ maxLen) (hb : (n + m) * by_ ≤ 140737488355328) :
    ∃ v' w', (Builtin.append_ #[t, t] ty #[v, .slice A m c]).run P w = .ok v' w' ∧ Own w' e sz v' (n + m) (xs ++ news) ∧ w.grownBy w' (fbOf v).head? ∧ ∀ b, b ∈ fbOf v' → b ∈ fbOf v ∨ b = w.heap.size := by
  by_cases hm : m = 0
  · subst hm
    have : news = [] := List.eq_nil_of_length_eq_zero (by simpa using hl)
    subst this
    obtain ⟨q1, A0, cap, rfl, q2, q3⟩ := ho
    refine ⟨_, w, ?_, ⟨by simpa using q1, A0, cap, rfl, by simpa using q2, by simpa using q3⟩, ⟨rfl, rfl, rfl, Nat.le_refl _, fun _ _ _ => rfl⟩, fun b hb => .inl (by simpa using hb)⟩
    cases A with
    | none => cases A0 <;> simp [Builtin.append_, run_underlying ht, sizeOf, typeInfo, hi, Builtin.lenOf, Builtin.firstCells, q2, storeCells]
    | some ad => cases A0 <;> simp [Builtin.append_, run_underlying ht, sizeOf, typeInfo, hi, Builtin.lenOf, Builtin.firstCells, q2, storeCells, loadCells, loadCellsFrom]
  · cases A with
    | none => exact absurd (hn rfl) hm
    | some ad =>
      have hnews := hnews ad rfl
      obtain ⟨q1, A0, cap, rfl, q2, q3⟩ := ho
      have kit : ∀ (hown : w.ownsRow 0 e sz (.slice A0 n cap) n xs), (∀ b, (Value.slice A0 n cap).ownBlock = some b → b ∈ fbOf (.slice A0 n cap)) → ∃ v' w', (Builtin.append_ #[t, t] ty #[.slice A0 n cap, .slice (some ad) m c]).run P w = .ok v' w' ∧ Own w' e sz v' (n + m) (xs ++ news) ∧ w.grownBy w' (fbOf (.slice A0 n cap)).head? ∧ ∀ b, b ∈ fbOf v' → b ∈ fbOf (.slice A0 n cap) ∨ b = w.heap.size := fun hown hfb => by
        obtain ⟨v', w', r1, r2, r3, _, r5⟩ := run_append_own_at (P := P) w 0 t ty e i z sz by_ ht hi hz his hby hzs hsz _ n xs hown ad m c news hl hnews h1 h63 hb (Nat.zero_le _)
        refine ⟨v', w', r1, .of r2, ?_, fun b hb => ?_⟩
        · have : (Value.slice A0 n cap).ownBlock = (fbOf (.slice A0 n cap)).head? := by
            cases A0 with
            | none => rfl
            | some ad0 =>
              cases cap with
              | zero => have := hfb _ rfl; simp [fbOf] at this
              | succ cap => rfl
          rw [← this]
          exact r3
        · have := fbOf_sub v' b hb
          rcases r5 with r5 | r5
          · exact .inl (hfb b (r5 ▸ this))
          · rw [r5] at this; exact .inr (Option.some.inj this).symm
      by_cases hc0 : cap = 0
      · subst hc0
        obtain rfl : n = 0 := by omega
        have : xs = [] := List.eq_nil_of_length_eq_zero (by simpa using q1)
        subst this
        cases A0 with
        | none => exact kit ⟨by simp, .inl ⟨rfl, rfl⟩⟩ (fun b hb => by simp [Value.ownBlock] at hb)
        | some b0 =>
          subst his
          subst hby
          have hr := run_append_grow (P := P) w t ty e i z ht hi hz b0 0 0 [] (by simp) (by simp) ad m c news hl hnews (by omega) (by unfold maxLen at h63; omega) (growslice_fits (by omega) hb)
          have hge := grownCap_ge w (0 + m) 0 e
          have hcm : grownCap w (0 + m) 0 e ≤ maxLen := grownCap_le_maxLen w (0 + m) 0 e h63
          refine ⟨_, _, hr, ⟨by simpa using hl, _, _, rfl, hge, .inr ⟨_, 0, _, rfl, .of (heap_alloc_new w.drew _), hcm, ?_, ?_⟩⟩, ⟨rfl, rfl, rfl, by simp, fun k hk _ => heap_alloc_old w.drew _ (by simpa using hk)⟩, fun b hb => ?_⟩
          · simp only [Array.size_append, List.size_toArray, size_zeroCells, hzs, hl, List.length_nil, Nat.zero_add, ← Nat.add_mul]
            congr 1
            simp only [Nat.zero_add] at hge
            omega
          · simp only [Array.toList_append, List.nil_append, List.drop_zero, Nat.zero_add, ← hl]
            exact List.take_left
          · have := fbOf_sub _ b hb
            simp [Value.ownBlock] at this
            exact .inr this.symm
      · obtain ⟨g, o, cur, rfl, hg, q4, q5, q6⟩ := q3.resolve_left hc0
        cases cap with
        | zero => exact absurd rfl hc0
        | succ cap =>
          have hL := hg
          · subst his
            subst hby
            have hsmall : n + m ≤ 9223372036854775807 := by simp only [maxLen] at h63; omega
            have hlen : (xs ++ news).length = (n + m) * i.size := by rw [List.length_append, q1, hl, Nat.add_mul]
            by_cases hroom : n + m ≤ cap + 1
            · have hfit : o + n * i.size + news.length ≤ cur.size := by
                have := Nat.mul_le_mul_right i.size hroom
                rw [Nat.add_mul] at this
                rw [hl, q5]; omega
              have hf := run_firstCells_some (P := P) w i.size m ad m c news hl hnews
              have hst := Lies.run_store P g (o + n * i.size) e news 0 cur w hL (by simpa using hfit) h1
              simp only [Nat.add_zero] at hst
              refine ⟨.slice (some ⟨g, o, none⟩) (n + m) (cap + 1), w.setRow g (cur.toList.take (o + n * i.size) ++ news ++ cur.toList.drop (o + n * i.size + news.length)).toArray, ?_, ⟨hlen, _, _, rfl, hroom, .inr ⟨g, o, _, rfl, hL.set ?_, q4, ?_, ?_⟩⟩, ⟨rfl, rfl, rfl, by simp, fun k _ hk => setRow_other w g k _ (fun e => hk (by simp [fbOf, e]))⟩, fun b hb => .inl (by simpa [fbOf] using hb)⟩
              · simp [Builtin.append_, run_underlying ht, sizeOf, typeInfo, hi, Builtin.lenOf, hroom, hf, Addr.add_lit, hst]
              · simp only [List.size_toArray, List.length_append, List.length_take, List.length_drop, Array.length_toList]
                omega
              · simp only [List.size_toArray, List.length_append, List.length_take, List.length_drop, Array.length_toList]
                omega
              · have e1 : (cur.toList.take (o + n * i.size) ++ news ++ cur.toList.drop (o + n * i.size + news.length)).drop o = xs ++ news ++ cur.toList.drop (o + n * i.size + news.length) := by
                  rw [List.append_assoc, List.drop_append_of_le_length (by rw [List.length_take, Array.length_toList]; omega), List.drop_take, Nat.add_sub_cancel_left, q6, List.append_assoc]
                rw [e1, ← hlen]
                exact List.take_left
            · have holds : ∀ j u, xs[j]? = some u → w.cell? ((⟨g, o, none⟩ : Addr).add j) = some u := fun j u hu => by
                rw [addr_add, hL.cell]
                rw [← q6, List.getElem?_take] at hu
                split at hu
                · simpa using hu
                · cases hu
              have hr := run_append_grow (P := P) w t ty e i z ht hi hz ⟨g, o, none⟩ n (cap + 1) xs q1 holds ad m c news hl hnews (by omega) (by omega) (growslice_fits (by omega) hb)
              have hge := grownCap_ge w (n + m) (cap + 1) e
              have hcm2 : grownCap w (n + m) (cap + 1) e ≤ maxLen := grownCap_le_maxLen w (n + m) (cap + 1) e h63
              refine ⟨_, _, hr, ⟨hlen, _, _, rfl, hge, .inr ⟨_, 0, _, rfl, .of (heap_alloc_new w.drew _), hcm2, ?_, ?_⟩⟩, ⟨rfl, rfl, rfl, by simp, fun k hk _ => heap_alloc_old w.drew _ (by simpa using hk)⟩, fun b hb => ?_⟩
              · simp only [Array.size_append, List.size_toArray, size_zeroCells, hzs, q1, hl, Nat.zero_add, ← Nat.add_mul]
                congr 1
                omega
              · simp only [Array.toList_append, List.append_assoc, List.drop_zero]
                rw [← List.append_assoc, ← hlen]
                exact List.take_left
              · have := fbOf_sub _ b hb
                simp [Value.ownBlock] at this
                exact .inr this.symm
end
end Go.Proofs.YtdahdpnkppknfaaGreatDoorM
