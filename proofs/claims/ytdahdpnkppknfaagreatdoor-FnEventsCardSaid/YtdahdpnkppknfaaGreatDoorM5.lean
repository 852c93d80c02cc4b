/- Rows of the frame's own: read and written. No condition. -/
import Derived.Test.YtdahdpnkppknfaaGreatDoorM4
namespace Go.Proofs.YtdahdpnkppknfaaGreatDoorM
set_option linter.unusedVariables false
set_option linter.unusedSimpArgs false
open Go.RowKit

def homeRow (H : List Blk) (n : Nat) : Option (Nat × List V × List (Nat × V)) :=
  match H[n]? with
  | some (.row e els fo) => some (e, els, fo)
  | _ => none
def V.isAggV : V → Bool
  | .agg _ => true
  | _ => false
/-- An element, some cells of it written. -/
def withCells (x : V) (off : Nat) (xs : List V) : V :=
  match x with
  | .agg cs => .agg (splice cs off xs)
  | y => xs.getD 0 y
/-- What a cell tells when it is read; a row that is not laid open tells nothing. -/
def V.seen : V → V
  | .sl true _ _ | .bx _ _ | .agg _ | .tup _ => .un
  | v => v
/-- The element i, told from outside. -/
def elAt (els : List V) (fo : List (Nat × V)) (i : Nat) : It → Option (V × List Prop)
  | .el y => some (y, [look fo i = none, els[i]? = some y])
  | .fo k => match fo[k]? with
    | some p => some (p.2, [look fo i = some p.2, i < els.length])
    | none => none
  | _ => none
/-- Reading rows. -/
def vread (P : Program) (o : Oper) (S : St) (its : List It) : Option (St × List It × List Prop) :=
  match o.op, o.dst with
  | .indexAddr t x i, some d => match ev S.G x, ev S.G i with
    | .ow n, .sc (.int _ k) => match homeRow S.H n with
      | some (e, els, _) => match szOf P e with
        | some sz => if velem P t = some e then some ({ S with G := S.G.set d (.ep n sz k.toNat 0) }, its, [0 ≤ k, k < els.length]) else none
        | none => none
      | none => none
    | .sb n sz lo len, .sc (.int _ k) => match homeRow S.H n with
      | some (e, _, _) => if velem P t = some e ∧ szOf P e = some sz then some ({ S with G := S.G.set d (.ep n sz (lo + k.toNat) 0) }, its, [0 ≤ k, k < len]) else none
      | none => none
    | .ptr n off, .sc (.int _ k) => match varr P t, its with
      | some (len, sz), .fo m :: its' => if m < len then some ({ S with G := S.G.set d (.ptr n (off + m * sz)) }, its', [k = (m : Int)]) else none
      | _, _ => none
    | _, _ => none
  | .buildSlice t 0 parts, some d => match velem P t, its, parts.toList with
    | some e, .mv :: its', [] => match szOf P e with
      | some _ => some ({ S with G := S.G.set d (.nl e) }, its', [])
      | none => none
    | _, _, _ => none
  | .load t x, some d => match ev S.G x, its with
    | .ep n sz i off, it :: its' => match homeRow S.H n with
      | some (e, els, fo) => match elAt els fo i it with
        | some (y, p) => match vagg P t, szOf P t with
          | some true, some k => if szOf P e = some sz ∧ off + k ≤ y.cells.length ∧ off + k ≤ sz then some ({ S with G := S.G.set d (.agg (((y.cells.drop off).take k).map V.seen)) }, its', p) else none
          | some false, _ => match y.cells[off]? with
            | some c => if szOf P e = some sz then some ({ S with G := S.G.set d c.seen }, its', p) else none
            | none => none
          | _, _ => none
        | none => none
      | none => none
    | _, _ => none
  | .call c, some d => match c.callee, c.args.toList, c.argTypes.toList with
    | .builtin .len, [x], [t] => match ev S.G x with
      | .ow n => match homeRow S.H n with
        | some (_, els, _) => if (velem P t).isSome then some ({ S with G := S.G.set d (.sc (.int .i64 els.length)) }, its, []) else none
        | none => none
      | _ => none
    | _, _, _ => none
  | .slice t x lo hi none, some d => match ev S.G x, vnum lo (ev S.G), vnum hi (ev S.G) with
    | .ow n, some l, some h => match homeRow S.H n with
      | some (e, els, _) => match szOf P e with
        | some sz => if velem P t = some e then some ({ S with G := S.G.set d (.sb n sz (l.getD 0).toNat ((h.getD els.length).toNat - (l.getD 0).toNat)) }, its, [0 ≤ l.getD 0, l.getD 0 ≤ h.getD els.length, h.getD els.length ≤ els.length]) else none
        | none => none
      | none => none
    | _, _, _ => none
  | _, _ => none
/-- Writing into rows. -/
def vstore (P : Program) (o : Oper) (S : St) (its : List It) : Option (St × List It × List Prop) :=
  match o.op, o.dst with
  | .store t p x, none => match ev S.G p, its with
    | .ep n sz i off, it :: its' => match homeRow S.H n, szOf P t with
      | some (e, els, fo), some k => if (nrm P t (ev S.G x)).cells.length = k ∧ (nrm P t (ev S.G x)).cells.all V.isCell = true ∧ szOf P e = some sz ∧ off + k ≤ sz then
          match it with
          | .el y => if (nrm P t (ev S.G x)).cells.all V.leafB = true ∧ (sz = 1 ∧ k = 1 ∨ y.isAggV = true) then some ({ S with H := S.H.set n (.row e (els.set i (withCells y off (nrm P t (ev S.G x)).cells)) fo) }, its', [look fo i = none, els[i]? = some y]) else none
          | .fo q => match fo[q]? with
            | some (j, y) => if sz = 1 ∧ k = 1 ∨ y.isAggV = true then some ({ S with H := S.H.set n (.row e els ((i, withCells y off (nrm P t (ev S.G x)).cells) :: fo.eraseIdx q)) }, its', [look fo i = some y, i < els.length, j = i]) else none
            | none => none
          | _ => none
        else none
      | _, _ => none
    | _, _ => none
  | _, _ => none

theorem look_cons_self (i : Nat) (y : V) (fo : List (Nat × V)) : look ((i, y) :: fo) i = some y := by simp [look]
theorem look_cons_ne {i j : Nat} (y : V) (fo : List (Nat × V)) (h : j ≠ i) : look ((i, y) :: fo) j = look fo j := by
  have : (i == j) = false := by simpa using fun e => h e.symm
  simp [look, this]
theorem look_erase {fo : List (Nat × V)} {q i j : Nat} {y : V} (h : fo[q]? = some (i, y)) (hj : j ≠ i) : look (fo.eraseIdx q) j = look fo j := by
  induction fo generalizing q with
  | nil => simp at h
  | cons p fo ih =>
    cases q with
    | zero =>
      simp only [List.getElem?_cons_zero, Option.some.injEq] at h
      subst h
      rw [List.eraseIdx_cons_zero, look_cons_ne _ _ hj]
    | succ q =>
      rw [List.eraseIdx_cons_succ]
      obtain ⟨k, z⟩ := p
      by_cases e : j = k
      · subst e; rw [look_cons_self, look_cons_self]
      · rw [look_cons_ne _ _ e, look_cons_ne _ _ e]
        exact ih (by simpa using h)
theorem splice_left {α : Type} (l r xs : List α) (o : Nat) (h : o + xs.length ≤ l.length) : splice (l ++ r) o xs = splice l o xs ++ r := by
  unfold splice
  rw [List.take_append_of_le_length (by omega), List.drop_append_of_le_length h]
  simp
theorem splice_right {α : Type} (l r xs : List α) (o : Nat) : splice (l ++ r) (l.length + o) xs = l ++ splice r o xs := by
  unfold splice
  rw [List.take_length_add_append, show l.length + o + xs.length = l.length + (o + xs.length) by omega, List.drop_length_add_append]
  simp
theorem flatten_set {α : Type} {uss : List (List α)} {sz i : Nat} (h : ∀ us ∈ uss, us.length = sz) {us : List α} (hi : uss[i]? = some us) (off : Nat) (xs : List α) (ho : off + xs.length ≤ sz) : (uss.set i (splice us off xs)).flatten = splice uss.flatten (i * sz + off) xs := by
  induction uss generalizing i with
  | nil => simp at hi
  | cons x uss ih =>
    have hx := h x (by simp)
    cases i with
    | zero =>
      simp only [List.getElem?_cons_zero, Option.some.injEq] at hi
      subst hi
      rw [List.set_cons_zero, List.flatten_cons, List.flatten_cons, Nat.zero_mul, Nat.zero_add, splice_left _ _ _ _ (by omega)]
    | succ i =>
      rw [List.set_cons_succ, List.flatten_cons, List.flatten_cons, ih (fun y hy => h y (by simp [hy])) (by simpa using hi), ← splice_right, hx]
      congr 1
      rw [Nat.add_mul]; omega
theorem flatten_sub {fss : List (List Nat)} {i : Nat} {f f' : List Nat} (hi : fss[i]? = some f) (h : f'.Sublist f) : (fss.set i f').flatten.Sublist fss.flatten := by
  induction fss generalizing i with
  | nil => simp at hi
  | cons x fss ih =>
    cases i with
    | zero =>
      simp only [List.getElem?_cons_zero, Option.some.injEq] at hi
      subst hi
      rw [List.set_cons_zero, List.flatten_cons, List.flatten_cons]
      exact h.append (List.Sublist.refl _)
    | succ i =>
      rw [List.set_cons_succ, List.flatten_cons, List.flatten_cons]
      exact (List.Sublist.refl _).append (ih (by simpa using hi))
theorem PwL.over {p : V → Value → List Nat → Prop} {cs xs : List V} {us vs : List Value} {f : List Nat} (h : PwL p cs us f) (hx : PwL p xs vs []) (o : Nat) (ho : o + xs.length ≤ cs.length) : ∃ f', f'.Sublist f ∧ PwL p (splice cs o xs) (splice us o vs) f' := by
  obtain ⟨fs, h1, h2, rfl, h3⟩ := h
  have hl := hx.len
  refine ⟨(splice fs o (List.replicate xs.length [])).flatten, ?_, splice fs o (List.replicate xs.length []), ?_, ?_, rfl, fun j c u g hc hu hg => ?_⟩
  · have e : fs = fs.take o ++ ((fs.drop o).take xs.length ++ fs.drop (o + xs.length)) := by rw [← List.drop_drop, List.take_append_drop, List.take_append_drop]
    have e2 : (splice fs o (List.replicate xs.length [])).flatten = (fs.take o).flatten ++ (fs.drop (o + xs.length)).flatten := by simp [splice]
    have e3 : fs.flatten = (fs.take o).flatten ++ (((fs.drop o).take xs.length).flatten ++ (fs.drop (o + xs.length)).flatten) := by
      conv => lhs; rw [e]
      simp
    rw [e2, e3]
    exact (List.Sublist.refl _).append (List.sublist_append_right _ _)
  · rw [splice_len _ _ _ ho, splice_len _ _ _ (by omega), h1]
  · rw [splice_len _ _ _ (by simp; omega), splice_len _ _ _ (by omega), h2]
  · rw [splice_get _ _ _ _ ho] at hc
    rw [splice_get _ _ _ _ (by omega)] at hu
    rw [splice_get _ _ _ _ (by simp; omega)] at hg
    simp only [List.length_replicate] at hg
    by_cases a1 : j < o
    · rw [if_pos a1] at hc hu hg; exact h3 j c u g hc hu hg
    · rw [if_neg a1] at hc hu hg
      by_cases a2 : j < o + xs.length
      · rw [if_pos (by omega)] at hc hu hg
        have : g = [] := (List.mem_replicate.1 (List.mem_of_getElem? hg)).2
        subst this
        exact hx.bare _ c u hc hu
      · rw [if_neg (by omega)] at hc hu hg; exact h3 j c u g hc hu hg
section
variable {P : Program} {R R' : Nat → Value} {N : Nat} {I : Nat → Prop} {w w' : World} {C : Ctx} {S S' : St} {a : Act} {F F' : Nat → List Nat} {t : Bool} {v : V} {u : Value} {f : List Nat}
theorem Rel.seen (h : Rel P I w R N t v u f) : Rel P I w R N true v.seen u [] := by
  cases h with
  | leaf _ v _ hb h =>
    have : v.seen = v := by cases v <;> first | rfl | (rename_i o _ _; cases o <;> first | rfl | simp [V.leafB] at hb) | simp [V.leafB] at hb
    rw [this]
    exact .leaf _ _ _ hb h
  | row => exact .leaf _ _ _ rfl (.un _)
  | agg => exact .leaf _ _ _ rfl (.un _)
  | tup => exact .leaf _ _ _ rfl (.un _)
  | bx => exact .leaf _ _ _ rfl (.un _)
  | fn _ g cs us hnt hlen hr =>
    cases t with
    | true => exact .fn true g cs us hnt hlen hr
    | false => exact (Rel.fn false g cs us hnt hlen hr).weak true
  | ptr n off g hn hR => exact .ptr n off g hn hR
  | ow n hn L cap A hR => exact .ow n hn L cap A hR
  | ep n sz i off g o L cap hn hR => exact .ep n sz i off g o L cap hn hR
  | sb n sz lo len A A' L cap hn hR hl hA => exact .sb n sz lo len A A' L cap hn hR hl hA
  | mp n g hn hR => exact .mp n g hn hR
theorem Inv.row (h : Inv P I C R S a F w) {n e : Nat} {els : List V} {fo : List (Nat × V)} (hr : homeRow S.H n = some (e, els, fo)) :
    S.H[n]? = some (.row e els fo) ∧ n < S.H.length ∧ BlkOk P I w R S.H.length n (.row e els fo) (F n) := by
  unfold homeRow at hr
  split at hr
  · rename_i e' els' fo' hg
    simp only [Option.some.injEq, Prod.mk.injEq] at hr
    obtain ⟨rfl, rfl, rfl⟩ := hr
    exact ⟨hg, (List.getElem?_eq_some_iff.1 hg).1, h.blk n _ hg⟩
  · simp at hr
theorem Own.open {e sz n : Nat} {v : Value} {xs : List Value} (h : Own w e sz v n xs) (hn : 0 < n) : ∃ g o cap cur, v = .slice (some ⟨g, o, none⟩) n cap ∧ Lies w g cur e ∧ n ≤ cap ∧ 0 < cap ∧ cap ≤ maxLen ∧ cur.size = o + cap * sz ∧ (cur.toList.drop o).take (n * sz) = xs := by
  obtain ⟨h1, A, cap, rfl, h3, h4⟩ := h
  rcases h4 with rfl | ⟨g, o, cur, rfl, hg, h5, h6, h7⟩
  · omega
  · exact ⟨g, o, cap, cur, rfl, hg, h3, by omega, h5, h6, h7⟩
theorem Own.cell {e sz n i j : Nat} {v : Value} {uss : List (List Value)} {us : List Value} {u : Value} (h : Own w e sz v n uss.flatten) (hc : ∀ us ∈ uss, us.length = sz) (hn : uss.length = n) (hi : uss[i]? = some us) (hj : us[j]? = some u) :
    ∃ g o cap, v = .slice (some ⟨g, o, none⟩) n cap ∧ w.cell? ⟨g, o + (i * sz + j), none⟩ = some u := by
  have hil := (List.getElem?_eq_some_iff.1 hi).1
  have hjl := (List.getElem?_eq_some_iff.1 hj).1
  have hsz : us.length = sz := hc us (List.mem_of_getElem? hi)
  obtain ⟨g, o, cap, cur, rfl, hg, h1, h2, h3, h4, h5⟩ := h.open (by omega)
  refine ⟨g, o, cap, rfl, ?_⟩
  rw [hg.cell]
  have := flatten_get hc hi (j := j) (by omega)
  rw [hj, ← h5, List.getElem?_take] at this
  split at this
  · simpa using this
  · simp at this
/-- An element of a row of the frame's own, as memory has it. -/
theorem BlkOk.elem {n e : Nat} {els : List V} {fo : List (Nat × V)} (h : BlkOk P I w R N n (.row e els fo) f) {i sz : Nat} (hs : szOf P e = some sz) (hi : i < els.length) :
    ∃ g o cap us f1, R n = .slice (some ⟨g, o, none⟩) els.length cap ∧ 0 < sz ∧ us.length = sz ∧ (∀ j u, us[j]? = some u → w.cell? ⟨g, o + (i * sz + j), none⟩ = some u) ∧ (∀ x, els[i]? = some x → ElB P I w R N sz fo i x us f1) := by
  obtain ⟨sz', uss, ffs, h1, h2, h3, h4, h5, h6, rfl⟩ := h
  obtain rfl : sz' = sz := by rw [hs] at h1; exact (Option.some.inj h1).symm
  have hel := fun i (hi : i < els.length) => h6 i _ _ _ (List.getElem?_eq_getElem hi) (List.getElem?_eq_getElem (by omega)) (List.getElem?_eq_getElem (by omega))
  have hsz : ∀ us ∈ uss, us.length = sz' := fun us hus => by
    obtain ⟨k, hk, rfl⟩ := List.mem_iff_getElem.1 hus
    have := hel k (by omega)
    unfold ElB at this
    split at this <;> exact this.2.1
  have hu : uss[i]? = some (uss[i]'(by omega)) := List.getElem?_eq_getElem (by omega)
  obtain ⟨g, o, cap, cur, hv, hg, _⟩ := h3.open (by omega)
  refine ⟨g, o, cap, uss[i]'(by omega), ffs[i]'(by omega), hv, h2, hsz _ (List.getElem_mem _), fun j u hj => ?_, fun x hx => h6 i x _ _ hx hu (List.getElem?_eq_getElem _)⟩
  obtain ⟨g', o', cap', hv', hc'⟩ := h3.cell hsz h4 hu hj
  rw [hv] at hv'
  simp only [Value.slice.injEq, Option.some.injEq, Addr.mk.injEq, and_true] at hv'
  rw [hv'.1.1, hv'.1.2]
  exact hc'
theorem elAt_spec {els : List V} {fo : List (Nat × V)} {i : Nat} {it : It} {y : V} {p : List Prop} (h : elAt els fo i it = some (y, p)) (hp : conj p) : i < els.length ∧ ∀ x sz us f, els[i]? = some x → ElB P I w R N sz fo i x us f → ∃ t, ElR P I w R N t sz y us f := by
  unfold elAt at h
  split at h
  · simp only [Option.some.injEq, Prod.mk.injEq] at h
    obtain ⟨rfl, rfl⟩ := h
    obtain ⟨h1, h2⟩ := hp
    refine ⟨(List.getElem?_eq_some_iff.1 h2).1, fun x sz us f hx he => ⟨false, ?_⟩⟩
    unfold ElB at he
    rw [h1] at he
    rw [h2] at hx
    obtain rfl := Option.some.inj hx
    exact he
  · split at h
    · simp only [Option.some.injEq, Prod.mk.injEq] at h
      obtain ⟨rfl, rfl⟩ := h
      obtain ⟨h1, h2⟩ := hp
      refine ⟨h2, fun x sz us f hx he => ⟨true, ?_⟩⟩
      unfold ElB at he
      rw [h1] at he
      exact he
    · simp at h
  · simp at h
theorem vread_sound {o : Oper} {its its' : List It} {p : List Prop} (hv : vread P o S its = some (S', its', p)) (hp : conj p) : OpOk P o S S' := by
  intro I C a w ⟨R, F, h⟩
  unfold vread at hv
  split at hv
  · rename_i t x i d hop hd
    have hx := h.ev x
    have hi := h.ev i
    split at hv
    · rename_i n k k' hex hei
      rw [hex] at hx
      rw [hei] at hi
      split at hv
      · rename_i e els fo hr
        split at hv
        · rename_i sz hs
          split at hv
          · rename_i ht
            simp only [Option.some.injEq, Prod.mk.injEq] at hv
            obtain ⟨rfl, _, rfl⟩ := hv
            simp only [conj] at hp
            obtain ⟨hg, hn, hb⟩ := h.row hr
            obtain ⟨g, o2, cap, us, f1, hR, _⟩ := hb.elem (i := k'.toNat) hs (by omega)
            have hρ : a.eval x = .slice (some ⟨g, o2, none⟩) els.length cap := by
              generalize a.eval x = u at hx
              cases hx with
              | leaf _ _ _ hb => simp [V.leafB] at hb
              | ow _ _ L c A hR' => rw [hR] at hR'; exact hR'.symm
            have hrun : ∀ w2, (execOp a.eval o).run P w2 = .ok (.value (.pointer (some ⟨g, o2 + (k'.toNat * sz + 0), none⟩))) w2 := fun w2 => by
              simp only [execOp, hop, hρ, hi.sc_eq, Sem.run_bind, run_indexAt ht hs hp.1 hp.2, Result.andThen_ok, Sem.run_pure]
              rw [addr_add]; simp
            refine ⟨_, _, w, hrun w, .inl rfl, fun _ => .refl w, fun _ => ⟨rfl, rfl, fun w2 _ => hrun w2⟩, ?_⟩
            rw [hd]
            exact .of (h.put (some d) (.ep n sz k'.toNat 0 g o2 els.length cap hn hR))
          · simp at hv
        · simp at hv
      · simp at hv
    · rename_i n sz lo len k k' hex hei
      rw [hex] at hx
      rw [hei] at hi
      split at hv
      · rename_i e els fo hr
        split at hv
        · rename_i hc
          obtain ⟨ht, hs⟩ := hc
          simp only [Option.some.injEq, Prod.mk.injEq] at hv
          obtain ⟨rfl, _, rfl⟩ := hv
          simp only [conj] at hp
          obtain ⟨hg, hn, hb⟩ := h.row hr
          generalize hρ : a.eval x = u at hx
          cases hx with
          | leaf _ _ _ hb => simp [V.leafB] at hb
          | sb _ _ _ _ A A' L cap hn' hR' hl hA =>
            have hL : L = els.length ∧ L ≤ cap := by
              obtain ⟨sz', uss, ffs, h1, h2, h3, _⟩ := hb
              obtain ⟨_, A2, cap2, h4, h5, _⟩ := h3
              rw [hR'] at h4
              simp only [Value.slice.injEq] at h4
              obtain ⟨_, rfl, rfl⟩ := h4
              exact ⟨rfl, h5⟩
            obtain ⟨g, o2, rfl, rfl⟩ := hA (by omega)
            have hrun : ∀ w2, (execOp a.eval o).run P w2 = .ok (.value (.pointer (some ⟨g, o2 + ((lo + k'.toNat) * sz + 0), none⟩))) w2 := fun w2 => by
              simp only [execOp, hop, hρ, hi.sc_eq, Sem.run_bind, run_indexAt ht hs hp.1 hp.2, Result.andThen_ok, Sem.run_pure]
              rw [addr_add, Nat.add_mul, Nat.add_zero, Nat.add_assoc]
            refine ⟨_, _, w, hrun w, .inl rfl, fun _ => .refl w, fun _ => ⟨rfl, rfl, fun w2 _ => hrun w2⟩, ?_⟩
            rw [hd]
            exact .of (h.put (some d) (.ep n sz (lo + k'.toNat) 0 g o2 L cap hn hR'))
        · simp at hv
      · simp at hv
    · rename_i n off k k' hex hei
      rw [hex] at hx
      rw [hei] at hi
      split at hv
      · rename_i len sz m its2 ha
        split at hv
        · rename_i hlt
          simp only [Option.some.injEq, Prod.mk.injEq] at hv
          obtain ⟨rfl, _, rfl⟩ := hv
          have hp : k' = (m : Int) := hp
          obtain ⟨g, hn, hR, hρ, _⟩ := hx.ptr_inv
          obtain ⟨e, hu, hs⟩ := varr_spec ha
          have hrun : ∀ w2, (execOp a.eval o).run P w2 = .ok (.value (.pointer (some ⟨g, off + m * sz, none⟩))) w2 := fun w2 => by
            simp only [execOp, hop, hρ, hi.sc_eq, Sem.run_bind, run_indexArr (w := w2) (ad := ⟨g, off, none⟩) (k := k) hu hs (show 0 ≤ k' by omega) (show k' < len by omega), Result.andThen_ok, Sem.run_pure]
            rw [addr_add, hp]
            simp
          refine ⟨_, _, w, hrun w, .inl rfl, fun _ => .refl w, fun _ => ⟨rfl, rfl, fun w2 _ => hrun w2⟩, ?_⟩
          rw [hd]
          exact .of (h.put (some d) (.ptr n _ g hn hR))
        · simp at hv
      · simp at hv
    · simp at hv
  · rename_i t parts d hop hd
    split at hv
    · rename_i e its2 he hpt
      split at hv
      · rename_i sz hs
        simp only [Option.some.injEq, Prod.mk.injEq] at hv
        obtain ⟨rfl, _, rfl⟩ := hv
        have hpe : parts = #[] := by rw [← Array.toList_inj, hpt]
        subst hpe
        have hrun : (Instr.buildSlice t 0 #[]).run P w = .ok (.slice (some ⟨w.heap.size, 0, none⟩) 0 0) (w.alloc (.cells #[] e)) := by
          simp [Instr.buildSlice, run_underlying (velem_spec he), run_sizeOf hs, Instr.fill, run_newRow]
          congr 2
          exact Array.eq_empty_of_size_eq_zero (by simp)
        refine ⟨.value (.slice (some ⟨w.heap.size, 0, none⟩) 0 0), .slice (some ⟨w.heap.size, 0, none⟩) 0 0, w.alloc (.cells #[] e), ?_, .inl rfl, fun _ => .alloc w _, fun h0 => by simp [floats, hop] at h0, ?_⟩
        · simp only [execOp, hop, List.map_toArray, List.map_nil, Sem.run_bind, hrun, Result.andThen_ok, Sem.run_pure]
        · rw [hd]
          exact .of ((h.world (kp_new h.olt _) (fun m b hb => Below.heap_alloc w _ b (h.fresh m b hb).2)).put (some d) (.leaf _ _ _ rfl (.nl e _)))
      · simp at hv
    · simp at hv
  · rename_i t x d hop hd
    have hx := h.ev x
    split at hv
    · rename_i n sz i off it its2 hex
      rw [hex] at hx
      split at hv
      · rename_i e els fo hr
        split at hv
        · rename_i y p1 hel
          obtain ⟨hg, hn, hb⟩ := h.row hr
          obtain ⟨g0, o0, L0, cap0, _, hR0, hρ, _⟩ := hx.ep_inv
          have key : conj p1 → szOf P e = some sz → ∃ us f, us.length = sz ∧ y.cells.length = sz ∧ (∀ u ∈ us, u.oneCell' = true) ∧ (∀ j u, us[j]? = some u → w.cell? ⟨g0, o0 + (i * sz + j), none⟩ = some u) ∧ ∃ t, RelL P I w R S.H.length t y.cells us f := fun hp hs => by
            obtain ⟨hi, hE⟩ := elAt_spec (P := P) (I := I) (w := w) (R := R) (N := S.H.length) hel hp
            obtain ⟨g, o2, cap, us, f1, hR, hz, hl, hcell, hEl⟩ := hb.elem hs hi
            rw [hR0] at hR
            simp only [Value.slice.injEq, Option.some.injEq, Addr.mk.injEq, and_true] at hR
            obtain ⟨⟨rfl, rfl⟩, _, _⟩ := hR
            obtain ⟨t, e1, e2, e3, e4⟩ := hE _ _ _ _ (List.getElem?_eq_getElem hi) (hEl _ (List.getElem?_eq_getElem hi))
            exact ⟨us, f1, hl, e1, e3, hcell, t, e4⟩
          split at hv
          · rename_i k ha hk
            split at hv
            · rename_i hcc
              obtain ⟨hs, hle, hle2⟩ := hcc
              simp only [Option.some.injEq, Prod.mk.injEq] at hv
              obtain ⟨rfl, _, rfl⟩ := hv
              obtain ⟨us, f, hl, hyl, hone, hcell, tt, hrel⟩ := key hp hs
              have hrun := fun (w2 : World) (hSm : Same w w2) => run_load_aggs (P := P) (w := w2) (g := g0) (off := o0 + (i * sz + off)) (us := (us.drop off).take k) ha hk (by rw [List.length_take, List.length_drop]; omega) (fun j u hu => hSm.cell <| by
                rw [List.getElem?_take] at hu
                split at hu
                · rw [Nat.add_assoc, Nat.add_assoc]; exact hcell _ u (by simpa using hu)
                · simp at hu)
              refine ⟨_, _, w, by simp only [execOp, hop, hρ, Instr.loadAt, Instr.sureAddr, Sem.run_bind, Sem.run_pure, Result.andThen_ok, hrun w (Same.refl w)]; rfl, .inl rfl, fun _ => .refl w, fun _ => ⟨rfl, rfl, fun w2 hSm => by simp only [execOp, hop, hρ, Instr.loadAt, Instr.sureAddr, Sem.run_bind, Sem.run_pure, Result.andThen_ok, hrun w2 hSm]⟩, ?_⟩
              rw [hd]
              refine InvE.of (h.put (some d) (Rel.agg_mk (.of_bare (by simp [hl, hyl]) fun j c u hc hu => ?_) (fun y hy => hone y (List.mem_of_mem_drop (List.mem_of_mem_take hy)))))
              rw [List.getElem?_map, List.getElem?_take] at hc
              rw [List.getElem?_take] at hu
              split at hc
              · rename_i hj
                rw [if_pos hj] at hu
                rw [List.getElem?_drop] at hc hu
                cases hcj : y.cells[off + j]? with
                | none => simp [hcj] at hc
                | some c0 =>
                  simp only [hcj, Option.map_some, Option.some.injEq] at hc
                  subst hc
                  obtain ⟨u', g', hu', hr', _⟩ := hrel.get hcj
                  rw [hu] at hu'
                  obtain rfl := Option.some.inj hu'
                  exact hr'.seen
              · simp at hc
            · simp at hv
          · rename_i ha
            split at hv
            · rename_i c hc
              split at hv
              · rename_i hs
                simp only [Option.some.injEq, Prod.mk.injEq] at hv
                obtain ⟨rfl, _, rfl⟩ := hv
                obtain ⟨us, f, hl, hyl, hone, hcell, tt, hrel⟩ := key hp hs
                obtain ⟨u, g', hu, hr', _⟩ := hrel.get hc
                have hrun : ∀ w2, Same w w2 → (loadVar t ⟨g0, o0 + (i * sz + off), none⟩).run P w2 = .ok u w2 := fun w2 hSm => run_load_one ha (hSm.cell (hcell off u hu))
                refine ⟨_, _, w, by simp only [execOp, hop, hρ, Instr.loadAt, Instr.sureAddr, Sem.run_bind, Sem.run_pure, Result.andThen_ok, hrun w (Same.refl w)]; rfl, .inl rfl, fun _ => .refl w, fun _ => ⟨rfl, rfl, fun w2 hSm => by simp only [execOp, hop, hρ, Instr.loadAt, Instr.sureAddr, Sem.run_bind, Sem.run_pure, Result.andThen_ok, hrun w2 hSm]⟩, ?_⟩
                rw [hd]
                exact InvE.of (h.put (some d) hr'.seen)
              · simp at hv
            · simp at hv
          · simp at hv
        · simp at hv
      · simp at hv
    · simp at hv
  · rename_i c d hop hd
    obtain ⟨callee, args, argTypes⟩ := c
    obtain ⟨args⟩ := args
    obtain ⟨argTypes⟩ := argTypes
    split at hv
    · rename_i x t hb ha ht
      simp only at hb ha ht
      subst hb ha ht
      have hx := h.ev x
      split at hv
      · rename_i n hex
        rw [hex] at hx
        split at hv
        · rename_i e els fo hr
          split at hv
          · rename_i hs
            simp only [Option.some.injEq, Prod.mk.injEq] at hv
            obtain ⟨rfl, _, rfl⟩ := hv
            obtain ⟨hg, hn, hb⟩ := h.row hr
            obtain ⟨e', he⟩ := Option.isSome_iff_exists.1 hs
            obtain ⟨A, cap, hρ⟩ : ∃ A cap, a.eval x = .slice A els.length cap := by
              obtain ⟨sz', uss, ffs, h1, h2, h3, _⟩ := hb
              obtain ⟨_, A2, cap2, h4, h5, _⟩ := h3
              generalize a.eval x = u at hx
              cases hx with
              | leaf _ _ _ hb => simp [V.leafB] at hb
              | ow _ _ L c A hR' => rw [h4] at hR'; exact ⟨A2, cap2, hR'.symm⟩
            have hrun : ∀ w2, (execOp a.eval o).run P w2 = .ok (.value (.int .i64 els.length)) w2 := fun w2 => by
              simp [execOp, hop, resolve, invoke, builtin, hρ, Builtin.len_, run_underlying (velem_spec he), goInt]
            refine ⟨_, _, w, hrun w, .inl rfl, fun _ => .refl w, fun _ => ⟨rfl, rfl, fun w2 _ => hrun w2⟩, ?_⟩
            rw [hd]
            exact .of (h.put (some d) (.leaf _ _ _ rfl (.sc _ rfl)))
          · simp at hv
        · simp at hv
      · simp at hv
    · simp at hv
  · rename_i t x lo hi d hop hd
    have hx := h.ev x
    split at hv
    · rename_i n l hh hex hl hhh
      rw [hex] at hx
      split at hv
      · rename_i e els fo hr
        split at hv
        · rename_i sz hs
          split at hv
          · rename_i ht
            simp only [Option.some.injEq, Prod.mk.injEq] at hv
            obtain ⟨rfl, _, rfl⟩ := hv
            simp only [conj] at hp
            obtain ⟨a1, a2, a3⟩ := hp
            obtain ⟨hg, hn, hb⟩ := h.row hr
            obtain ⟨sz', uss, ffs, h1, h2, h3, _⟩ := hb
            obtain ⟨_, A, cap, h4, h5, h6⟩ := h3
            have hρ : a.eval x = .slice A els.length cap := by
              generalize a.eval x = u at hx
              cases hx with
              | leaf _ _ _ hb => simp [V.leafB] at hb
              | ow _ _ L c A hR' => rw [h4] at hR'; exact hR'.symm
            have hbd := fun w2 : World => run_bounds (w := w) (w2 := w2) (fun x => h.ev x) hl hhh true els.length cap h5 a1 a2 a3
            have hszr : ∀ w2, (sizeOf e).run P w2 = .ok sz w2 := fun w2 => run_sizeOf hs
            generalize hL : (l.getD 0).toNat = L at *
            generalize hH : (hh.getD (els.length : Int)).toNat = H at *
            have hLH : L ≤ H := by omega
            have hHl : H ≤ els.length := by omega
            have hrun : ∀ w2, (execOp a.eval o).run P w2 = .ok (.value (.slice (if cap = L then A else A.map (·.add (L * sz))) (H - L) (cap - L))) w2 := fun w2 => by
              simp [execOp, hop, hρ, Instr.sliceAt, Instr.slice, run_underlying (velem_spec ht), hbd, hszr]
            refine ⟨_, _, w, hrun w, .inl rfl, fun _ => .refl w, fun _ => ⟨rfl, rfl, fun w2 _ => hrun w2⟩, ?_⟩
            rw [hd]
            refine .of (h.put (some d) (.sb n sz L (H - L) A _ els.length cap hn h4 (by omega) (fun hlt => ?_)))
            rcases h6 with rfl | ⟨g, o2, cur, rfl, _⟩
            · omega
            · refine ⟨g, o2, rfl, ?_⟩
              rw [if_neg (by omega)]
              simp [addr_add]
          · simp at hv
        · simp at hv
      · simp at hv
    · simp at hv
  · simp at hv
theorem Inv.turnS (h : Inv P I C R S a F w) (n : Nat) {b' : Blk} {f' : List Nat} (hb : Kp C.O w w') (hw : ∀ m b, m ≠ n → b ∈ F m → w'.heap[b]? = w.heap[b]?) (hk : BlkOk P I w' R S.H.length n b' f') (hf : f'.Sublist (F n)) :
    Inv P I C R { S with H := S.H.set n b' } a (upd F n f') w' :=
  h.turn n hb hw hk (hf.nodup (h.nodup n)) (fun x hx => ⟨(h.fresh n x (hf.subset hx)).1, fun m hm hm2 => hm (h.disj m n x hm2 (hf.subset hx))⟩)
theorem withCells_cells {x : V} {off sz n : Nat} {xs : List V} (hx : x.cells.length = sz) (hn : xs.length = n) (hc : xs.all V.isCell = true) (ho : off + n ≤ sz) (h : sz = 1 ∧ n = 1 ∨ x.isAggV = true) : (withCells x off xs).cells = splice x.cells off xs := by
  cases x with
  | agg cs => rfl
  | _ =>
    simp only [V.isAggV, Bool.false_eq_true, or_false] at h
    obtain ⟨h1, h2⟩ := h
    match xs, hn with
    | [y], _ =>
      obtain rfl : off = 0 := by omega
      have : y.cells = [y] := cells_one (by simpa using hc)
      simp [withCells, V.cells, splice] at this ⊢
      exact this
    | [], hn => simp at hn; omega
    | _ :: _ :: _, hn => simp at hn; omega
/-- Cells of an element are written over. -/
theorem Inv.storeEl (h : Inv P I C R S a F w) {n e : Nat} {els els' : List V} {fo fo' : List (Nat × V)} (hrow : homeRow S.H n = some (e, els, fo)) {i off sz : Nat} {vs : List Value} (hs : szOf P e = some sz) (hi : i < els.length) (hlen : els'.length = els.length) (ho : off + vs.length ≤ sz)
    (hold : ∀ us f, us.length = sz → (∀ x, els[i]? = some x → ElB P I w R S.H.length sz fo i x us f) → ∃ f', f'.Sublist f ∧ ∀ x', els'[i]? = some x' → ElB P I w R S.H.length sz fo' i x' (splice us off vs) f')
    (hoth : ∀ j x us f, j ≠ i → els'[j]? = some x → ∃ x0, els[j]? = some x0 ∧ (ElB P I w R S.H.length sz fo j x0 us f → ElB P I w R S.H.length sz fo' j x us f)) :
    ∃ g o cap cur, R n = .slice (some ⟨g, o, none⟩) els.length cap ∧ Lies w g cur e ∧ o + (i * sz + off) + vs.length ≤ cur.size ∧ InvE P I C { S with H := S.H.set n (.row e els' fo') } a (w.setRow g (splice cur.toList (o + (i * sz + off)) vs).toArray) := by
  obtain ⟨hg, hn, sz', uss, ffs, h1, h2, h3, h4, h5, h6, hF⟩ := h.row hrow
  obtain rfl : sz' = sz := by rw [hs] at h1; exact (Option.some.inj h1).symm
  have hsz : ∀ us ∈ uss, us.length = sz' := fun us hus => by
    obtain ⟨k, hk, rfl⟩ := List.mem_iff_getElem.1 hus
    have := h6 k _ _ _ (List.getElem?_eq_getElem (by omega)) (List.getElem?_eq_getElem hk) (List.getElem?_eq_getElem (by omega))
    unfold ElB at this
    split at this <;> exact this.2.1
  have hu : uss[i]? = some (uss[i]'(by omega)) := List.getElem?_eq_getElem (by omega)
  generalize uss[i]'(by omega) = us at hu
  have hf : ffs[i]? = some (ffs[i]'(by omega)) := List.getElem?_eq_getElem (by omega)
  generalize ffs[i]'(by omega) = f at hf
  have husl : us.length = sz' := hsz us (List.mem_of_getElem? hu)
  obtain ⟨f', hsub, hE⟩ := hold us f husl (fun x hx => h6 i x us f hx hu hf)
  obtain ⟨g, o, cap, cur, hR, hcur, q1, q2, q3, q4, q5⟩ := h3.open (by omega)
  have hk : i * sz' + sz' ≤ els.length * sz' := by
    have : (i + 1) * sz' ≤ els.length * sz' := Nat.mul_le_mul_right _ hi
    rw [Nat.add_mul] at this; omega
  have hcapl : els.length * sz' ≤ cap * sz' := Nat.mul_le_mul_right _ q1
  refine ⟨g, o, cap, cur, hR, hcur, by omega, ?_⟩
  have hfb : fbOf (R n) = [g] := by
    rw [hR]
    cases cap with
    | zero => omega
    | succ cap => rfl
  rw [hfb] at hF
  have hnd := h.nodup n
  rw [hF] at hnd
  have hgF : g ∈ F n := by rw [hF]; simp
  have hgn : ∀ b, b ∈ ffs.flatten → b ≠ g := fun b hb e => by
    subst e
    exact (List.nodup_cons.1 (by simpa using hnd)).1 hb
  have hgo := h.fresh n g hgF
  have hb : Kp C.O w (w.setRow g (splice cur.toList (o + (i * sz' + off)) vs).toArray) := kp_row hgo.1 _
  have hst : ∀ b, b ≠ g → (w.setRow g (splice cur.toList (o + (i * sz' + off)) vs).toArray).heap[b]? = w.heap[b]? := fun b hb => setRow_other w g b _ hb
  have hIst : ∀ b, I b → (w.setRow g (splice cur.toList (o + (i * sz' + off)) vs).toArray).heap[b]? = w.heap[b]? := fun b hb' => hb.block b (h.iin b hb')
  have hsub2 : (ffs.set i f').flatten.Sublist ffs.flatten := flatten_sub hf hsub
  refine .of (h.turnS n (f' := [g] ++ (ffs.set i f').flatten) hb (fun m b hm hb2 => hst b (fun e => hm (h.disj m n b hb2 (by rw [e]; exact hgF)))) ⟨sz', uss.set i (splice us off vs), ffs.set i f', hs, h2, ?_, by simp; omega, by simp; omega, fun j x us2 f2 hx hus hf2 => ?_, by rw [hfb]⟩ (by rw [hF]; exact (List.Sublist.refl _).append hsub2))
  · have hfl : uss.flatten.length = els.length * sz' := by rw [flatten_len hsz, h4]
    rw [flatten_set hsz hu off vs ho]
    rw [hlen]
    refine ⟨by rw [splice_len _ _ _ (by omega), hfl], some ⟨g, o, none⟩, cap, hR, q1, .inr ⟨g, o, _, rfl, hcur.set (by have := splice_len cur.toList vs (o + (i * sz' + off)) (by simp; omega); simpa [q4] using this), q3, ?_, ?_⟩⟩
    · have := splice_len cur.toList vs (o + (i * sz' + off)) (by simp; omega)
      simpa [q4] using this
    · have e1 : ((splice cur.toList (o + (i * sz' + off)) vs).drop o).take (els.length * sz') = splice ((cur.toList.drop o).take (els.length * sz')) (i * sz' + off) vs := by
        apply List.ext_getElem?
        intro j
        have hcl : cur.toList.length = o + cap * sz' := by rw [Array.length_toList]; exact q4
        rw [List.getElem?_take, List.getElem?_drop, splice_get _ _ _ _ (by omega), splice_get _ _ _ _ (by simp; omega)]
        simp only [List.getElem?_take, List.getElem?_drop]
        by_cases hj : j < els.length * sz'
        · by_cases h1 : j < i * sz' + off
          · simp [hj, h1]
          · by_cases h2 : j < i * sz' + off + vs.length
            · simp [hj, h1, h2, show o + j < o + (i * sz' + off) + vs.length by omega, show o + j - (o + (i * sz' + off)) = j - (i * sz' + off) by omega]
            · simp [hj, h1, h2, show ¬ o + j < o + (i * sz' + off) + vs.length by omega]
        · simp [hj, show ¬ j < i * sz' + off by omega, show ¬ j < i * sz' + off + vs.length by omega]
      rw [q5] at e1
      simpa using e1
  · rw [List.getElem?_set] at hus hf2
    by_cases e : i = j
    · subst e
      rw [if_pos rfl, if_pos (by omega)] at hus hf2
      obtain rfl := Option.some.inj hus
      obtain rfl := Option.some.inj hf2
      exact (hE x hx).step hIst (fun b hb' => hst b (hgn b (flatten_mem hf (hsub.subset hb'))))
    · rw [if_neg e] at hus hf2
      obtain ⟨x0, hx0, himp⟩ := hoth j x us2 f2 (fun z => e z.symm) hx
      exact (himp (h6 j x0 us2 f2 hx0 hus hf2)).step hIst (fun b hb' => hst b (hgn b (flatten_mem hf2 hb')))
theorem vstore_sound {o : Oper} {its its' : List It} {p : List Prop} (hv : vstore P o S its = some (S', its', p)) (hp : conj p) : OpOk P o S S' := by
  intro I C a w ⟨R, F, h⟩
  unfold vstore at hv
  split at hv
  · rename_i t q x hop hd
    have hq := h.ev q
    split at hv
    · rename_i n sz i off it its2 hep
      rw [hep] at hq
      obtain ⟨g0, o0, L0, cap0, _, hR0, hρ, _⟩ := hq.ep_inv
      split at hv
      · rename_i e els fo k hr hk
        split at hv
        · rename_i hcc
          obtain ⟨hxl, hxc, hs, hle⟩ := hcc
          obtain ⟨hxr, hx1⟩ := ((h.ev x).nrm t).cells hxc
          generalize hxs : (nrm P t (Go.Proofs.YtdahdpnkppknfaaGreatDoorM.ev S.G x)).cells = xs at *
          have hvl : (a.eval x).cells.toList.length = k := by rw [← hxr.len, hxl]
          have fin : ∀ (els' : List V) (fo' : List (Nat × V)), i < els.length → els'.length = els.length →
              (∀ us f, us.length = sz → (∀ x, els[i]? = some x → ElB P I w R S.H.length sz fo i x us f) → ∃ f', f'.Sublist f ∧ ∀ x', els'[i]? = some x' → ElB P I w R S.H.length sz fo' i x' (splice us off (a.eval x).cells.toList) f') →
              (∀ j x us f, j ≠ i → els'[j]? = some x → ∃ x0, els[j]? = some x0 ∧ (ElB P I w R S.H.length sz fo j x0 us f → ElB P I w R S.H.length sz fo' j x us f)) →
              ∃ nx u w', (execOp a.eval o).run P w = .ok nx w' ∧ (nx = .value u ∨ (nx = .skip ∧ u = undef)) ∧ (growsX o S = true → Grow w w') ∧ (floats P o = true → nx = .value u ∧ w' = w ∧ ∀ w2, Same w w2 → (execOp a.eval o).run P w2 = .ok (.value u) w2) ∧ InvE P I C { S with H := S.H.set n (.row e els' fo') } (a.put o.dst u) w' := fun els' fo' hi hl h1 h2 => by
            obtain ⟨g, o2, cap, cur, hR, hcur, hfit, hI⟩ := h.storeEl hr hs hi hl (by omega) h1 h2
            rw [hR0] at hR
            simp only [Value.slice.injEq, Option.some.injEq, Addr.mk.injEq, and_true] at hR
            obtain ⟨⟨rfl, rfl⟩, _, _⟩ := hR
            have hrun := run_storeVar_at (P := P) (w := w) (v := a.eval x) hk (by simpa using hvl) hx1 hcur (o := o0 + (i * sz + off)) (by omega)
            exact ⟨.skip, undef, w.setRow g0 (splice cur.toList (o0 + (i * sz + off)) (a.eval x).cells.toList).toArray, by simp only [execOp, hop, hρ, Instr.storeAt, Instr.sureAddr, Sem.run_bind, Sem.run_pure, Result.andThen_ok, hrun], .inr ⟨rfl, rfl⟩, fun h0 => by simp [growsX, appNl, grows, hop] at h0, fun h0 => by simp [floats, hop] at h0, by rw [hd]; exact hI⟩
          split at hv
          · rename_i y
            split at hv
            · rename_i hc2
              obtain ⟨hlf, hsh⟩ := hc2
              simp only [Option.some.injEq, Prod.mk.injEq] at hv
              obtain ⟨rfl, _, rfl⟩ := hv
              obtain ⟨hno, hy⟩ := hp
              have hy : els[i]? = some y := hy
              have hi := (List.getElem?_eq_some_iff.1 hy).1
              refine fin _ fo hi (by simp) (fun us f hus hE => ?_) (fun j x us f hj hx => ?_)
              · have hE := hE y hy
                unfold ElB at hE
                rw [hno] at hE
                obtain ⟨e1, e2, e3, e4⟩ := hE
                have hxr' : RelL P I w R S.H.length false xs (a.eval x).cells.toList [] := hxr.mono fun c u g hc _ _ hr => by
                  obtain ⟨hv, rfl⟩ := hr.vw_leaf (List.all_eq_true.1 hlf c hc)
                  exact .leaf _ _ _ (List.all_eq_true.1 hlf c hc) hv
                obtain ⟨f', hsub, hr2⟩ := e4.over hxr' off (by omega)
                refine ⟨f', hsub, fun x' hx' => ?_⟩
                rw [List.getElem?_set, if_pos rfl, if_pos hi] at hx'
                obtain rfl := Option.some.inj hx'
                unfold ElB
                rw [hno]
                have hwc := withCells_cells (xs := xs) e1 hxl hxc hle hsh
                exact ⟨by rw [hwc, splice_len _ _ _ (by omega)]; exact e1, by rw [splice_len _ _ _ (by omega)]; exact hus, splice_one e3 hx1, by rw [hwc]; exact hr2⟩
              · rw [List.getElem?_set, if_neg (fun z => hj z.symm)] at hx
                exact ⟨x, hx, id⟩
            · simp at hv
          · rename_i q'
            split at hv
            · rename_i j y hfo
              split at hv
              · rename_i hsh
                simp only [Option.some.injEq, Prod.mk.injEq] at hv
                obtain ⟨rfl, _, rfl⟩ := hv
                simp only [conj] at hp
                obtain ⟨hlk, hi, rfl⟩ := hp
                refine fin els _ hi rfl (fun us f hus hE => ?_) (fun j' x us f hj hx => ⟨x, hx, fun hE => ?_⟩)
                · have hE := hE _ (List.getElem?_eq_getElem hi)
                  unfold ElB at hE
                  rw [hlk] at hE
                  obtain ⟨e1, e2, e3, e4⟩ := hE
                  obtain ⟨f', hsub, hr2⟩ := e4.over hxr off (by omega)
                  refine ⟨f', hsub, fun x' hx' => ?_⟩
                  unfold ElB
                  rw [look_cons_self]
                  have hwc := withCells_cells (xs := xs) e1 hxl hxc hle hsh
                  exact ⟨by rw [hwc, splice_len _ _ _ (by omega)]; exact e1, by rw [splice_len _ _ _ (by omega)]; exact hus, splice_one e3 hx1, by rw [hwc]; exact hr2⟩
                · unfold ElB at hE ⊢
                  rw [look_cons_ne _ _ hj, look_erase hfo hj]
                  exact hE
              · simp at hv
            · simp at hv
          · simp at hv
        · simp at hv
      · simp at hv
    · simp at hv
  · simp at hv
end
end Go.Proofs.YtdahdpnkppknfaaGreatDoorM
