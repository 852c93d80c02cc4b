/- The same state, told otherwise: all of it. No condition. -/
import Derived.Test.YtdahdpnkppknfaaGreatDoorM6
namespace Go.Proofs.YtdahdpnkppknfaaGreatDoorM
set_option linter.unusedVariables false
set_option linter.unusedSimpArgs false
open Go.RowKit
section
variable {P : Program} {R R' : Nat → Value} {N : Nat} {I : Nat → Prop} {w w' : World} {C : Ctx} {S S' : St} {a : Act} {F F' : Nat → List Nat} {t : Bool} {v : V} {u : Value} {f : List Nat}
theorem foldl_keep {α β : Type} {p : β → Prop} {g : β → α → β} (hg : ∀ b x, p b → p (g b x)) : ∀ (l : List α) (b : β), p b → p (l.foldl g b)
  | [], b, h => h
  | x :: l, b, h => foldl_keep hg l (g b x) (hg b x h)
theorem closeAll_sound {n : Nat} (h : InvE P I C S a w) : InvE P I C (closeAll n S) a w := by
  unfold closeAll
  split
  · refine foldl_keep (p := fun S => InvE P I C S a w) (fun S k h => ?_) _ _ h
    split
    · exact foldl_keep (p := fun S => InvE P I C S a w) (fun S j h => close1_sound h) _ _ h
    · exact h
  · exact h
theorem get_maskG (live : List Nat) : ∀ (G : List V) (i d : Nat) (v : V), (maskG live i G)[d]? = some v → v = .un ∨ G[d]? = some v
  | [], _, _, _, h => by simp [maskG] at h
  | x :: G, i, d, v, h => by
    cases d with
    | zero =>
      simp only [maskG, List.getElem?_cons_zero, Option.some.injEq] at h ⊢
      split at h
      · exact .inr h
      · exact .inl h.symm
    | succ d => exact get_maskG live G (i + 1) d v (by simpa [maskG] using h)
theorem length_maskG (live : List Nat) : ∀ (G : List V) (i : Nat), (maskG live i G).length = G.length
  | [], _ => rfl
  | x :: G, i => by simp [maskG, length_maskG live G (i + 1)]
/-- The row n, told otherwise, with the same blocks of memory. -/
theorem Inv.retell (h : Inv P I C R S a F w) {n : Nat} {b b' : Blk} (hg : S.H[n]? = some b) (hk : BlkOk P I w R S.H.length n b (F n) → BlkOk P I w R S.H.length n b' (F n)) : Inv P I C R { S with H := S.H.set n b' } a (upd F n (F n)) w :=
  h.turnS n (Kp.refl _ _) (fun _ _ _ _ => rfl) (hk (h.blk n _ hg)) (List.Sublist.refl _)
theorem renG_get {G : List V} {d : Nat} {v : V} {s : List Nat} (h : (renL s G)[d]? = some v) : ∃ v0, G[d]? = some v0 ∧ v = v0.ren s := by
  rw [renL_map, List.getElem?_map] at h
  cases hd : G[d]? with
  | none => simp [hd] at h
  | some v0 => simp only [hd, Option.map_some, Option.some.injEq] at h; exact ⟨v0, rfl, h.symm⟩
theorem ren_cells (s : List Nat) (v : V) : (v.ren s).cells = v.cells.map (V.ren s) := by
  cases v with
  | agg cs => simp [V.ren, V.cells, renL_map]
  | ow n => simp only [V.ren, V.cells, List.map_cons, List.map_nil]; cases idx s 0 n <;> rfl
  | sb n sz lo len => simp only [V.ren, V.cells, List.map_cons, List.map_nil]; cases idx s 0 n <;> rfl
  | ptr n off => simp only [V.ren, V.cells, List.map_cons, List.map_nil]; cases idx s 0 n <;> rfl
  | ep n sz i off => simp only [V.ren, V.cells, List.map_cons, List.map_nil]; cases idx s 0 n <;> rfl
  | mp n => simp only [V.ren, V.cells, List.map_cons, List.map_nil]; cases idx s 0 n <;> rfl
  | _ => simp [V.ren, V.cells]
theorem Rel.ren {s : List Nat} (h : Rel P I w R N t v u f) : t = true → Rel P I w (fun m => R (s.getD m 0)) s.length true (v.ren s) u f := by
  have hix : ∀ {n m : Nat}, idx s 0 n = some m → m < s.length ∧ s.getD m 0 = n := fun {n m} h => by
    obtain ⟨_, h2⟩ := idx_spec s 0 n m h
    simp only [Nat.sub_zero] at h2
    exact ⟨(List.getElem?_eq_some_iff.1 h2).1, by rw [List.getD_eq_getElem?_getD, h2]; rfl⟩
  induction h with
  | leaf t v u hb h =>
    intro _
    have : v.ren s = v := by cases v <;> first | rfl | simp [V.leafB] at hb
    rw [this]
    exact .leaf _ _ _ hb h
  | row t e els v sz uss fss hs hz ho hlen hfl hc hr ih => exact fun _ => (Rel.row t e els v sz uss fss hs hz ho hlen hfl hc hr).openRow true
  | agg t cs us fs hlen hfl hr h1 ih =>
    intro ht
    refine .agg true (renL s cs) us fs (by rw [renL_map, List.length_map]; exact hlen) hfl (fun j c x g hc hx hg => ?_) h1
    obtain ⟨c0, hc0, rfl⟩ := renG_get hc
    exact ih j c0 x g hc0 hx hg ht
  | tup t cs us fs hlen hfl hr ih =>
    intro ht
    refine .tup true (renL s cs) us fs (by rw [renL_map, List.length_map]; exact hlen) hfl (fun j c x g hc hx hg => ?_)
    obtain ⟨c0, hc0, rfl⟩ := renG_get hc
    exact ih j c0 x g hc0 hx hg ht
  | fn t g cs us hnt hlen hr ih =>
    intro ht
    refine .fn true g (renL s cs) us (by
      rw [renL_map, List.all_map]
      refine List.all_eq_true.2 fun c hc => ?_
      have := List.all_eq_true.1 hnt c hc
      cases c <;> first | rfl | (simp only [Function.comp, V.ren]; split <;> rfl) | simp [V.notTup] at this) (by rw [renL_map, List.length_map]; exact hlen) (fun j c x hc hx => ?_)
    obtain ⟨c0, hc0, rfl⟩ := renG_get hc
    exact ih j c0 x hc0 hx ht
  | ptr n off g hn hR =>
    intro _
    simp only [V.ren]
    split
    · rename_i m hm
      exact .ptr m off g (hix hm).1 (by rw [(hix hm).2]; exact hR)
    · exact .leaf _ _ _ rfl (.un _)
  | ow n hn L cap A hR =>
    intro _
    simp only [V.ren]
    split
    · rename_i m hm
      exact .ow m (hix hm).1 L cap A (by rw [(hix hm).2]; exact hR)
    · exact .leaf _ _ _ rfl (.un _)
  | ep n sz i off g o L cap hn hR =>
    intro _
    simp only [V.ren]
    split
    · rename_i m hm
      exact .ep m sz i off g o L cap (hix hm).1 (by rw [(hix hm).2]; exact hR)
    · exact .leaf _ _ _ rfl (.un _)
  | mp n g hn hR =>
    intro _
    simp only [V.ren]
    split
    · rename_i m hm
      exact .mp m g (hix hm).1 (by rw [(hix hm).2]; exact hR)
    · exact .leaf _ _ _ rfl (.un _)
  | sb n sz lo len A A' L cap hn hR hl hA =>
    intro _
    simp only [V.ren]
    split
    · rename_i m hm
      exact .sb m sz lo len A A' L cap (hix hm).1 (by rw [(hix hm).2]; exact hR) hl hA
    · exact .leaf _ _ _ rfl (.un _)
  | bx t e cs g us fs hg hlen hfl hr h1 ih => exact fun _ => .bx true e cs g us fs hg hlen hfl (fun j c x g hc hx hg => (hr j c x g hc hx hg).shut) h1
theorem RelL.ren {s : List Nat} {cs : List V} {us : List Value} (h : RelL P I w R N true cs us f) : RelL P I w (fun m => R (s.getD m 0)) s.length true (cs.map (V.ren s)) us f := by
  obtain ⟨fs, h1, h2, h3, h4⟩ := h
  refine ⟨fs, by simpa using h1, h2, h3, fun j c u g hc hu hg => ?_⟩
  rw [List.getElem?_map] at hc
  cases hj : cs[j]? with
  | none => simp [hj] at hc
  | some c0 =>
    simp only [hj, Option.map_some, Option.some.injEq] at hc
    subst hc
    exact (h4 j c0 u g hj hu hg).ren rfl
theorem look_map (s : List Nat) (fo : List (Nat × V)) (i : Nat) : look (fo.map fun p => (p.1, p.2.ren s)) i = (look fo i).map (V.ren s) := by
  induction fo with
  | nil => rfl
  | cons p fo ih =>
    obtain ⟨j, z⟩ := p
    rw [List.map_cons]
    by_cases e : i = j
    · subst e; rw [look_cons_self, look_cons_self]; rfl
    · rw [look_cons_ne _ _ e, look_cons_ne _ _ e]; exact ih
theorem BlkOk.ren {s : List Nat} {b : Blk} {m : Nat} (h : BlkOk P I w R N (s.getD m 0) b f) : BlkOk P I w (fun m => R (s.getD m 0)) s.length m (b.ren s) f := by
  cases b with
  | dead => exact h
  | box e cs =>
    obtain ⟨g, us, h1, h2, h3, h4, h5⟩ := h
    exact ⟨g, us, h1, h2, by rw [renL_map]; exact RelL.ren h3, h4, h5⟩
  | mset ks => exact h
  | row e els fo =>
    obtain ⟨sz, uss, ffs, h1, h2, h3, h4, h5, h6, h7⟩ := h
    refine ⟨sz, uss, ffs, h1, h2, h3, h4, h5, fun i x us f hx hus hf => ?_, h7⟩
    have hE := h6 i x us f hx hus hf
    unfold ElB at hE ⊢
    rw [look_map]
    cases hl : look fo i with
    | none => rw [hl] at hE; exact ElR.shut hE
    | some y =>
      rw [hl] at hE
      obtain ⟨e1, e2, e3, e4⟩ := hE
      exact ⟨by rw [ren_cells, List.length_map]; exact e1, e2, e3, by rw [ren_cells]; exact RelL.ren e4⟩
theorem nodup_get {s : List Nat} (h : s.Nodup) {i j : Nat} (hi : i < s.length) (hj : j < s.length) (e : s.getD i 0 = s.getD j 0) : i = j := by
  rw [List.getD_eq_getElem?_getD, List.getD_eq_getElem?_getD, List.getElem?_eq_getElem hi, List.getElem?_eq_getElem hj] at e
  exact (List.getElem_inj (h₀ := hi) (h₁ := hj) h).1 (by simpa using e)
theorem Rel.tidyC (h : Rel P I w R N t v u f) : Rel P I w R N t (tidyC P v) u f := by
  unfold Go.Proofs.YtdahdpnkppknfaaGreatDoorM.tidyC
  split
  · rename_i e
    split
    · rename_i k hs
      obtain ⟨hv, rfl⟩ := h.vw_leaf rfl
      cases hv with
      | nl _ A =>
        have := Rel.row_mk (P := P) (I := I) (w := w) (R := R) (N := N) (R' := R) (N' := N) (u := .slice A 0 0) (e := e) (els := []) (uss := []) (ffs := []) t hs (by omega) ⟨by simp, A, 0, rfl, Nat.le_refl _, .inl rfl⟩ rfl rfl (fun i x us f hx => by simp at hx)
        have hfb : fbOf (.slice A 0 0) = [] := by cases A <;> rfl
        simpa [hfb] using this
    · exact h
  · exact h
theorem RelL.tidy {cs : List V} {us : List Value} (h : RelL P I w R N t cs us f) : RelL P I w R N t (cs.map (Go.Proofs.YtdahdpnkppknfaaGreatDoorM.tidyC P)) us f := by
  obtain ⟨fs, h1, h2, h3, h4⟩ := h
  refine ⟨fs, by simpa using h1, h2, h3, fun j c u g hc hu hg => ?_⟩
  rw [List.getElem?_map] at hc
  cases hj : cs[j]? with
  | none => simp [hj] at hc
  | some c0 =>
    simp only [hj, Option.map_some, Option.some.injEq] at hc
    subst hc
    exact (h4 j c0 u g hj hu hg).tidyC
theorem tidy_cells (P : Program) (v : V) : (tidyE P v).cells = v.cells.map (Go.Proofs.YtdahdpnkppknfaaGreatDoorM.tidyC P) := by
  cases v with
  | nl e =>
    have h1 : ∀ o : Option Nat, (match o with | some (_ + 1) => V.sl true e [] | _ => V.nl e).cells = [match o with | some (_ + 1) => V.sl true e [] | _ => V.nl e] := fun o => by
      rcases o with _ | _ | _ <;> rfl
    exact h1 (szOf P e)
  | _ => simp [tidyE, Go.Proofs.YtdahdpnkppknfaaGreatDoorM.tidyC, V.cells]
theorem ElR.tidy {sz : Nat} {x : V} {us : List Value} (h : ElR P I w R N t sz x us f) : ElR P I w R N t sz (tidyE P x) us f :=
  ⟨by rw [tidy_cells, List.length_map]; exact h.1, h.2.1, h.2.2.1, by rw [tidy_cells]; exact RelL.tidy h.2.2.2⟩
theorem look_mapT (g : V → V) (fo : List (Nat × V)) (i : Nat) : look (fo.map fun p => (p.1, g p.2)) i = (look fo i).map g := by
  induction fo with
  | nil => rfl
  | cons p fo ih =>
    obtain ⟨j, z⟩ := p
    rw [List.map_cons]
    by_cases e : i = j
    · subst e; rw [look_cons_self, look_cons_self]; rfl
    · rw [look_cons_ne _ _ e, look_cons_ne _ _ e]; exact ih
/-- A slot is told otherwise. -/
theorem Inv.retag (h : Inv P I C R S a F w) {d : Nat} (hv : Rel P I w R S.H.length true v (a.tmps.getD d undef) []) : Inv P I C R { S with G := S.G.set d v } a F w := by
  refine ⟨by simpa using h.len, fun d' v' hd' => ?_, h.blk, h.nodup, h.disj, h.fresh, h.iin, h.olt, h.below, h.orig, h.defers, h.gl⟩
  dsimp only at hd'
  rw [List.getElem?_set] at hd'
  split at hd'
  · rename_i e
    subst e
    split at hd'
    · obtain rfl := Option.some.inj hd'; exact hv
    · simp at hd'
  · exact h.slot d' v' hd'
theorem Inv.newNil (h : Inv P I C R S a F w) {e k : Nat} {A : Option Addr} (hs : szOf P e = some (k + 1)) : Inv P I C (updR R S.H.length (.slice A 0 0)) { S with H := S.H ++ [.row e [] []] } a (upd F S.H.length []) w := by
  have hfb : fbOf (.slice A 0 0) = [] := by cases A <;> rfl
  refine h.new (Kp.refl _ _) (fun _ _ _ => rfl) ?_ List.nodup_nil (fun x hx => by simp at hx)
  have := BlkOk.lt (P := P) (I := I) (w := w) (R := R) (N := 0) (n := 0) (b := .dead) (f := []) rfl
  exact ⟨k + 1, [], [], hs, by omega, by rw [updR_self]; exact ⟨by simp, A, 0, rfl, Nat.le_refl _, .inl rfl⟩, rfl, rfl, fun i x us f hx => by simp at hx, by rw [updR_self, hfb]; rfl⟩
theorem vadj1_sound {it : It} {p : List Prop} (hv : vadj1 P S it = some (S', p)) (hp : conj p) (h : InvE P I C S a w) : InvE P I C S' a w := by
  unfold vadj1 at hv
  split at hv
  · rename_i live
    simp only [Option.some.injEq, Prod.mk.injEq] at hv
    obtain ⟨rfl, _⟩ := hv
    obtain ⟨R, F, h⟩ := h
    exact .of (h.slots (length_maskG _ _ _) (fun d v hd => get_maskG live _ 0 d v hd))
  · rename_i d v
    simp only [Option.some.injEq, Prod.mk.injEq] at hv
    obtain ⟨rfl, rfl⟩ := hv
    have hp : S.G.getD d .un = v := hp
    obtain ⟨R, F, h⟩ := h
    refine .of (h.slots (by simp) (fun d' v' hd' => ?_))
    rw [List.getElem?_set] at hd'
    split at hd'
    · rename_i e
      subst e
      split at hd'
      · rename_i hl
        obtain rfl := Option.some.inj hd'
        rw [List.getD_eq_getElem?_getD, List.getElem?_eq_getElem hl] at hp
        exact .inr (by rw [List.getElem?_eq_getElem hl]; exact congrArg some hp)
      · simp at hd'
    · exact .inr hd'
  · rename_i n b
    simp only [Option.some.injEq, Prod.mk.injEq] at hv
    obtain ⟨rfl, rfl⟩ := hv
    have hp : S.H.getD n .dead = b := hp
    have : S.H.set n b = S.H := by
      apply List.ext_getElem?
      intro k
      rw [List.getElem?_set]
      split
      · rename_i e
        subst e
        split
        · rename_i hl
          rw [List.getD_eq_getElem?_getD, List.getElem?_eq_getElem hl] at hp
          rw [List.getElem?_eq_getElem hl]
          exact congrArg some hp.symm
        · rw [List.getElem?_eq_none (by omega)]
      · rfl
    rw [this]
    exact h
  · rename_i n i y
    split at hv
    · rename_i e els fo hr
      simp only [Option.some.injEq, Prod.mk.injEq] at hv
      obtain ⟨rfl, rfl⟩ := hv
      obtain ⟨hno, hy⟩ := hp
      have hy : els[i]? = some y := hy
      have hi := (List.getElem?_eq_some_iff.1 hy).1
      obtain ⟨R, F, h⟩ := h
      obtain ⟨hg, hn, _⟩ := h.row hr
      have h1 := h.retell (b' := .row e els ((i, y) :: fo)) hg (fun hb => by
        obtain ⟨sz, uss, ffs, h1, h2, h3, h4, h5, h6, h7⟩ := hb
        refine ⟨sz, uss, ffs, h1, h2, h3, h4, h5, fun j x us f hx hus hf => ?_, h7⟩
        have hE := h6 j x us f hx hus hf
        unfold ElB at hE ⊢
        by_cases e : j = i
        · subst e
          rw [look_cons_self]
          rw [hno] at hE
          rw [hy] at hx
          obtain rfl := Option.some.inj hx
          exact ElR.weak hE true
        · rw [look_cons_ne _ _ e]
          exact hE)
      have h2 : InvE P I C { S with H := S.H.set n (.row e els ((i, y) :: fo)) } a w ∧ OpenAt n { S with H := S.H.set n (.row e els ((i, y) :: fo)) } := ⟨.of h1, e, els, i, y, fo, by simp [hn], hi⟩
      exact (foldl_keep (p := fun S => InvE P I C S a w ∧ OpenAt n S) (fun S j h => open1_sound h.1 h.2) _ _ h2).1
    · simp at hv
  · rename_i n
    have h := closeAll_sound (n := n) h
    generalize closeAll n S = S1 at *
    split at hv
    · rename_i e els fo hr
      split at hv
      · rename_i hall
        simp only [Option.some.injEq, Prod.mk.injEq] at hv
        obtain ⟨rfl, rfl⟩ := hv
        obtain ⟨R, F, h⟩ := h
        obtain ⟨hg, hn, _⟩ := h.row hr
        refine .of (h.retell (b' := .row e (ap els (fo.map fun p => (p.1, tidyE P p.2))) []) hg (fun hb => ?_))
        obtain ⟨sz, uss, ffs, h1, h2, h3, h4, h5, h6, h7⟩ := hb
        have hl := length_ap els (fo.map fun p => (p.1, tidyE P p.2))
        refine ⟨sz, uss, ffs, h1, h2, by rw [hl]; exact h3, by rw [hl]; exact h4, by rw [hl]; exact h5, fun j x us f hx hus hf => ?_, h7⟩
        have hj : j < els.length := by rw [← hl]; exact (List.getElem?_eq_some_iff.1 hx).1
        rw [ap_get _ _ _ hj] at hx
        obtain rfl := Option.some.inj hx
        have hE := h6 j _ us f (List.getElem?_eq_getElem hj) hus hf
        unfold ElB at hE
        show ElR P I w R S1.H.length false sz _ us f
        rw [look_mapT]
        cases hlk : look fo j with
        | none => rw [hlk] at hE; exact hE
        | some y =>
          rw [hlk] at hE
          obtain ⟨e1, e2, e3, e4⟩ := hE
          refine ElR.tidy ⟨e1, e2, e3, e4.mono fun c u g hc _ _ hr => hr.closed ?_ false⟩
          have hmem : ∃ p ∈ fo, p.2 = y := by
            unfold look at hlk
            cases hf : fo.find? (fun p => p.1 == j) with
            | none => rw [hf] at hlk; simp at hlk
            | some p => rw [hf] at hlk; exact ⟨p, List.mem_of_find?_eq_some hf, by simpa using hlk⟩
          obtain ⟨p, hpm, rfl⟩ := hmem
          exact List.all_eq_true.1 (List.all_eq_true.1 hall p hpm) c hc
      · simp at hv
    · simp at hv
  · rename_i s
    split at hv
    · rename_i hnd
      simp only [Option.some.injEq, Prod.mk.injEq] at hv
      obtain ⟨rfl, rfl⟩ := hv
      have hnd := nodupB_spec s hnd
      obtain ⟨R, F, h⟩ := h
      refine ⟨fun m => R (s.getD m 0), fun m => if m < s.length ∧ s.getD m 0 < S.H.length then F (s.getD m 0) else [], ⟨by rw [renL_map, List.length_map]; exact h.len, fun d v hd => ?_, fun m b hm => ?_, fun m => ?_, fun m k b hb hb' => ?_, fun m b hb => ?_, h.iin, h.olt, h.below, fun j m hj => ?_, h.defers, h.gl⟩⟩
      · obtain ⟨v0, hd0, rfl⟩ := renG_get hd
        simpa using (h.slot d v0 hd0).ren (s := s) rfl
      · rw [List.getElem?_map] at hm
        cases hs : s[m]? with
        | none => simp [hs] at hm
        | some n =>
          simp only [hs, Option.map_some, Option.some.injEq] at hm
          subst hm
          have hml := (List.getElem?_eq_some_iff.1 hs).1
          have hgd : s.getD m 0 = n := by rw [List.getD_eq_getElem?_getD, hs]; rfl
          simp only [List.length_map]
          cases hn : S.H[n]? with
          | none =>
            rw [List.getD_eq_getElem?_getD, hn, if_neg (fun z => by
              have := z.2
              rw [hgd, List.getElem?_eq_getElem this] at *
              cases hn)]
            rfl
          | some b =>
            rw [List.getD_eq_getElem?_getD, hn, if_pos ⟨hml, by rw [hgd]; exact (List.getElem?_eq_some_iff.1 hn).1⟩, hgd]
            have := h.blk n b hn
            rw [← hgd] at this ⊢
            exact this.ren
      · skip
        split
        · exact h.nodup _
        · exact List.nodup_nil
      · skip
        split at hb
        · split at hb'
          · rename_i z1 z2
            exact nodup_get hnd z1.1 z2.1 (h.disj _ _ b hb hb')
          · simp at hb'
        · simp at hb
      · skip
        split at hb
        · exact h.fresh _ b hb
        · simp at hb
      · simp only [List.getElem?_map, List.length_map] at hj ⊢
        cases hg : S.gv[j]? with
        | none => simp [hg] at hj
        | some o =>
          simp only [hg, Option.map_some, Option.some.injEq] at hj
          cases o with
          | none => simp at hj
          | some n =>
            simp only [Option.bind_some] at hj
            obtain ⟨_, h2⟩ := idx_spec s 0 n m hj
            simp only [Nat.sub_zero] at h2
            have hgd : s.getD m 0 = n := by rw [List.getD_eq_getElem?_getD, h2]; rfl
            exact ⟨(List.getElem?_eq_some_iff.1 h2).1, by rw [hgd]; exact (h.orig j n hg).2⟩
    · simp at hv
  · rename_i d
    split at hv
    · rename_i e hg
      split at hv
      · rename_i k hs
        simp only [Option.some.injEq, Prod.mk.injEq] at hv
        obtain ⟨rfl, rfl⟩ := hv
        obtain ⟨R, F, h⟩ := h
        obtain ⟨hv, _⟩ := (h.slot d _ hg).vw_leaf rfl
        generalize hu : a.tmps.getD d undef = u at hv
        cases hv with
        | nl _ A =>
          refine .of ((h.newNil (A := A) hs).retag (d := d) ?_)
          rw [hu]
          exact .ow S.H.length (by simp) 0 0 A (updR_self _ _ _)
      · simp at hv
    · simp at hv
  · rename_i n j
    split at hv
    · rename_i e cs hb
      split at hv
      · rename_i e' hc
        split at hv
        · rename_i k hs
          simp only [Option.some.injEq, Prod.mk.injEq] at hv
          obtain ⟨rfl, rfl⟩ := hv
          obtain ⟨R, F, h⟩ := h
          obtain ⟨g, us, hg, hnl, hR, hus, hr, h1, hF⟩ := h.box hb
          obtain ⟨u, g0, f', p1, p2, p3, p4, p5, p6⟩ := hr.at j hc
          obtain rfl : f' = [] := List.eq_nil_of_sublist_nil p4
          obtain ⟨hv, rfl⟩ := p2.vw_leaf rfl
          cases hv with
          | nl _ A =>
            have hnew := h.newNil (A := A) hs
            have hl : ({ S with H := S.H ++ [Blk.row e' [] []] } : St).H.length = S.H.length + 1 := by simp
            have hg2 : ({ S with H := S.H ++ [Blk.row e' [] []] } : St).H[n]? = some (.box e cs) := by simpa [List.getElem?_append_left hnl] using hg
            have := hnew.retell (n := n) (b' := .box e (cs.set j (.ow S.H.length))) hg2 (fun hb => by
              rw [upd_ne _ _ (by omega)] at hb ⊢
              rw [hl]
              refine ⟨g, us, by rw [updR_lt _ _ _ n hnl]; exact hR, hus, p6 _ (fun c u g hr => hr.env (Nat.le_succ _) (updR_lt _ _ _)) _ (.ow S.H.length (by omega) 0 0 A (updR_self _ _ _)), h1, hF⟩)
            have hset : (S.H ++ [Blk.row e' [] []]).set n (.box e (cs.set j (.ow S.H.length))) = S.H.set n (.box e (cs.set j (.ow S.H.length))) ++ [.row e' [] []] := List.set_append_left _ _ hnl
            simp only [hset] at this
            exact .of this
        · simp at hv
      · simp at hv
    · simp at hv
  · rename_i d
    split at hv
    · rename_i e hg
      split at hv
      · rename_i k hs
        simp only [Option.some.injEq, Prod.mk.injEq] at hv
        obtain ⟨rfl, rfl⟩ := hv
        obtain ⟨R, F, h⟩ := h
        obtain ⟨hv, _⟩ := (h.slot d _ hg).vw_leaf rfl
        generalize hu : a.tmps.getD d undef = u at hv
        cases hv with
        | nl _ A =>
          refine .of (h.retag (d := d) ?_)
          rw [hu]
          exact .leaf _ _ _ rfl (.sl false e [] A 0 (k + 1) [] hs (by omega) (by simp) (by simp) (fun _ => rfl) (fun ad _ h => by simp at h) (fun ad _ i us j u h => by simp at h) rfl (fun i x us h => by simp at h) (fun i x us j c u h => by simp at h))
      · simp at hv
    · simp at hv
  · simp at hv
theorem vadj_sound : ∀ (its its' : List It) {S S' : St} {p : List Prop}, vadj P its S = (S', its', p) → conj p → InvE P I C S a w → InvE P I C S' a w
  | [], its', S, S', p, h, _, hI => by
    simp only [vadj, Prod.mk.injEq] at h
    obtain ⟨rfl, _, _⟩ := h
    exact hI
  | it :: its, its', S, S', p, h, hp, hI => by
    unfold vadj at h
    split at h
    · simp only [Prod.mk.injEq] at h
      obtain ⟨rfl, _, _⟩ := h
      exact hI
    · exact vadj_sound its its' h hp hI
    · split at h
      · rename_i S1 p1 h1
        split at h
        rename_i S2 its2 q h2
        simp only [Prod.mk.injEq] at h
        obtain ⟨rfl, _, rfl⟩ := h
        obtain ⟨q1, q2⟩ := conj_append hp
        exact vadj_sound its its2 h2 q2 (vadj1_sound h1 q1 hI)
      · simp only [Prod.mk.injEq] at h
        obtain ⟨rfl, _, _⟩ := h
        exact hI
end
end Go.Proofs.YtdahdpnkppknfaaGreatDoorM
