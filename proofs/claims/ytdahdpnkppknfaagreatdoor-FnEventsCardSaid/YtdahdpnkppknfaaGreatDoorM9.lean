/- Rows of the frame's own, made and grown: what is told of them is so. No condition. -/
import Derived.Test.YtdahdpnkppknfaaGreatDoorM8
namespace Go.Proofs.YtdahdpnkppknfaaGreatDoorM
set_option linter.unusedVariables false
set_option linter.unusedSimpArgs false
open Go.RowKit

/-- Elements, one by one. -/
def ElsR (P : Program) (I : Nat → Prop) (w : World) (R : Nat → Value) (N : Nat) (sz : Nat) (els : List V) (uss : List (List Value)) (ffs : List (List Nat)) : Prop :=
  uss.length = els.length ∧ ffs.length = els.length ∧ ∀ (i : Nat) (x : V) (us : List Value) (f : List Nat), els[i]? = some x → uss[i]? = some us → ffs[i]? = some f → ElR P I w R N false sz x us f
/-- What a handing over leaves. -/
def Gone (P : Program) (I : Nat → Prop) (C : Ctx) (R : Nat → Value) (S : St) (a : Act) (F : Nat → List Nat) (w : World) (H' : List Blk) (f : List Nat) : Prop :=
  ∃ F' : Nat → List Nat, Inv P I C R { S with H := H' } a F' w ∧ H'.length = S.H.length ∧ f.Nodup ∧ (∀ n b, b ∈ F' n → b ∈ F n) ∧ ∀ b, b ∈ f → (∃ n, b ∈ F n) ∧ ∀ n, b ∉ F' n
section
variable {P : Program} {R R' : Nat → Value} {N N' : Nat} {I : Nat → Prop} {w w' : World} {C : Ctx} {S S' : St} {a : Act} {F F' : Nat → List Nat} {t : Bool} {v : V} {u : Value} {f : List Nat} {sz : Nat} {els els2 : List V} {uss uss2 : List (List Value)} {ffs ffs2 : List (List Nat)}
theorem Gone.none (h : Inv P I C R S a F w) : Gone P I C R S a F w S.H [] := ⟨F, h, rfl, List.nodup_nil, fun _ _ h => h, fun b hb => by simp at hb⟩
theorem Gone.kill (h : Inv P I C R S a F w) (n : Nat) : Gone P I C R S a F w (S.H.set n .dead) (F n) :=
  ⟨_, h.kill n, by simp, h.nodup n, fun m b hb => by
    unfold upd at hb
    split at hb
    · simp at hb
    · exact hb, fun b hb => ⟨⟨n, hb⟩, fun m hm => by
    unfold upd at hm
    split at hm
    · simp at hm
    · rename_i hmn; exact hmn (h.disj m n b hm hb)⟩⟩
theorem getElem?_app {α : Type} {l r : List α} {i : Nat} : (l ++ r)[i]? = if i < l.length then l[i]? else r[i - l.length]? := by
  split
  · rw [List.getElem?_append_left (by assumption)]
  · rw [List.getElem?_append_right (by omega)]
theorem ElsR.append (h : ElsR P I w R N sz els uss ffs) (h' : ElsR P I w R N sz els2 uss2 ffs2) : ElsR P I w R N sz (els ++ els2) (uss ++ uss2) (ffs ++ ffs2) := by
  obtain ⟨a1, a2, a3⟩ := h
  obtain ⟨b1, b2, b3⟩ := h'
  refine ⟨by simp [a1, b1], by simp [a2, b2], fun i x us f hx hus hf => ?_⟩
  rw [getElem?_app] at hx hus hf
  by_cases hi : i < els.length
  · rw [if_pos (by omega)] at hx hus hf
    exact a3 i x us f hx hus hf
  · rw [if_neg (by omega)] at hx hus hf
    rw [a1] at hus
    rw [a2] at hf
    exact b3 _ x us f hx hus hf
theorem ElsR.step (h : ElsR P I w R N sz els uss ffs) (hI : ∀ k, I k → w'.heap[k]? = w.heap[k]?) (hf : ∀ k, k ∈ ffs.flatten → w'.heap[k]? = w.heap[k]?) : ElsR P I w' R' N' sz els uss ffs :=
  ⟨h.1, h.2.1, fun i x us f hx hus hf' => ElR.shut (ElR.step (h.2.2 i x us f hx hus hf') hI (fun k hk => hf k (flatten_mem hf' hk)))⟩
theorem ElsR.cut (h : ElsR P I w R N sz els uss ffs) (lo len : Nat) : ElsR P I w R N sz ((els.drop lo).take len) ((uss.drop lo).take len) ((ffs.drop lo).take len) := by
  obtain ⟨a1, a2, a3⟩ := h
  refine ⟨by simp [a1], by simp [a2], fun i x us f hx hus hf => ?_⟩
  have q : ∀ {α : Type} {l : List α} {x : α}, ((l.drop lo).take len)[i]? = some x → l[lo + i]? = some x := fun h => by
    rw [List.getElem?_take] at h
    split at h
    · rwa [List.getElem?_drop] at h
    · simp at h
  exact a3 _ x us f (q hx) (q hus) (q hf)
theorem ElsR.sz_all (h : ElsR P I w R N sz els uss ffs) : ∀ us ∈ uss, us.length = sz := fun us hus => by
  obtain ⟨i, hi, rfl⟩ := List.mem_iff_getElem.1 hus
  exact (h.2.2 i _ _ _ (List.getElem?_eq_getElem (by have := h.1; omega)) (List.getElem?_eq_getElem hi) (List.getElem?_eq_getElem (by have := h.1; have := h.2.1; omega))).2.1
theorem ElsR.one (h : ElsR P I w R N sz els uss ffs) : ∀ u ∈ uss.flatten, u.oneCell' = true := fun u hu => by
  obtain ⟨us, hus, hu⟩ := List.mem_flatten.1 hu
  obtain ⟨i, hi, rfl⟩ := List.mem_iff_getElem.1 hus
  exact (h.2.2 i _ _ _ (List.getElem?_eq_getElem (by have := h.1; omega)) (List.getElem?_eq_getElem hi) (List.getElem?_eq_getElem (by have := h.1; have := h.2.1; omega))).2.2.1 u hu
theorem ElsR.flat (h : ElsR P I w R N sz els uss ffs) (hf : els.all V.flatE = true) : ElsR P I w R N sz els uss (List.replicate els.length []) := by
  refine ⟨h.1, by simp, fun i x us f hx hus hff => ?_⟩
  have : f = [] := (List.mem_replicate.1 (List.mem_of_getElem? hff)).2
  subst this
  have hi := (List.getElem?_eq_some_iff.1 hx).1
  obtain ⟨e1, e2, e3, e4⟩ := h.2.2 i x us _ hx hus (List.getElem?_eq_getElem (by have := h.2.1; omega))
  refine ⟨e1, e2, e3, .of_bare (by omega) fun j c u hc hu => ?_⟩
  obtain ⟨u', g, hu', hr, _⟩ := e4.get hc
  rw [hu] at hu'
  obtain rfl := Option.some.inj hu'
  have := List.all_eq_true.1 (List.all_eq_true.1 hf x (List.mem_of_getElem? hx)) c (List.mem_of_getElem? hc)
  cases c with
  | sc v =>
    obtain ⟨hv, _⟩ := hr.vw_leaf rfl
    exact .leaf _ _ _ rfl hv
  | _ => simp at this
theorem BlkOk.elsOf {n e : Nat} (h : BlkOk P I w R N n (.row e els []) f) (hs : szOf P e = some sz) : ∃ uss ffs, 0 < sz ∧ Own w e sz (R n) els.length uss.flatten ∧ ElsR P I w R N sz els uss ffs ∧ f = fbOf (R n) ++ ffs.flatten := by
  obtain ⟨sz', uss, ffs, h1, h2, h3, h4, h5, h6, h7⟩ := h
  obtain rfl : sz' = sz := by rw [hs] at h1; exact (Option.some.inj h1).symm
  exact ⟨uss, ffs, h2, h3, ⟨h4, h5, fun i x us f hx hus hf => h6 i x us f hx hus hf⟩, h7⟩
theorem BlkOk.mk {n e : Nat} (hs : szOf P e = some sz) (hz : 0 < sz) (ho : Own w e sz (R n) els.length uss.flatten) (h : ElsR P I w R N sz els uss ffs) : BlkOk P I w R N n (.row e els []) (fbOf (R n) ++ ffs.flatten) :=
  ⟨sz, uss, ffs, hs, hz, ho, h.1, h.2.1, fun i x us f hx hus hf => h.2.2 i x us f hx hus hf, rfl⟩
theorem ElsR.nil : ElsR P I w R N sz [] [] [] := ⟨rfl, rfl, fun i x us f h => by simp at h⟩
/-- A part of a row, given away with it. -/
theorem own_cut (h : Inv P I C R S a F w) {e n lo len : Nat} (hg : S.H[n]? = some (.row e els [])) (hs : szOf P e = some sz) (hc : Rel P I w R S.H.length true (.sb n sz lo len) u []) :
    ∃ uss ffs, 0 < sz ∧ Own w e sz u ((els.drop lo).take len).length uss.flatten ∧ ElsR P I w R S.H.length sz ((els.drop lo).take len) uss ffs ∧ Gone P I C R S a F w (S.H.set n .dead) (fbOf u ++ ffs.flatten) := by
  obtain ⟨uss, ffs, hz, ho, hel, hF⟩ := (h.blk n _ hg).elsOf hs
  have hcut := hel.cut lo len
  cases hc with
  | leaf _ _ _ hb => simp [V.leafB] at hb
  | sb _ _ _ _ A A' L cap hn hR hl hA =>
    have hall := hel.sz_all
    have hlu := hel.1
    obtain ⟨q1, A2, cap2, hR2, q2, q3⟩ := ho
    rw [hR] at hR2
    simp only [Value.slice.injEq] at hR2
    obtain ⟨rfl, rfl, rfl⟩ := hR2
    have htl : ((els.drop lo).take len).length = len := by simp; omega
    have hfl : ((uss.drop lo).take len).flatten = (uss.flatten.drop (lo * sz)).take (len * sz) := by
      have e1 : uss.flatten.drop (lo * sz) = (uss.drop lo).flatten := by
        have e3 : uss.flatten = (uss.take lo).flatten ++ (uss.drop lo).flatten := by rw [← List.flatten_append, List.take_append_drop]
        have e4 : (uss.take lo).flatten.length = lo * sz := by
          rw [flatten_len (fun us hus => hall us (List.mem_of_mem_take hus)), List.length_take, Nat.min_eq_left (by omega)]
        rw [e3, ← e4, List.drop_left]
      have e2 : (uss.drop lo).flatten = ((uss.drop lo).take len).flatten ++ ((uss.drop lo).drop len).flatten := by rw [← List.flatten_append, List.take_append_drop]
      have e4 : ((uss.drop lo).take len).flatten.length = len * sz := by rw [flatten_len hcut.sz_all, hcut.1, htl]
      rw [e1, e2, ← e4, List.take_left]
    have hfb : ∀ b, b ∈ fbOf (.slice A' len (cap - lo)) → b ∈ fbOf (R n) := fun b hb => by
      rw [hR]
      rcases Nat.lt_or_ge lo cap with h0 | h0
      · obtain ⟨g, o, rfl, rfl⟩ := hA h0
        obtain ⟨c, rfl⟩ : ∃ c, cap = c + 1 := ⟨cap - 1, by omega⟩
        obtain ⟨d, hd⟩ : ∃ d, c + 1 - lo = d + 1 := ⟨c - lo, by omega⟩
        rw [hd] at hb
        simpa [fbOf] using hb
      · rw [show cap - lo = 0 by omega] at hb
        cases A' <;> simp [fbOf] at hb
    obtain ⟨F', k1, k2, k3, k4, k5⟩ := Gone.kill h n
    rw [hF] at k3 k5
    obtain ⟨m1, m2, m3⟩ := List.nodup_append.1 k3
    have hsub : ((ffs.drop lo).take len).flatten.Sublist ffs.flatten := by
      have e3 : ffs.flatten = (ffs.take lo).flatten ++ (((ffs.drop lo).take len).flatten ++ ((ffs.drop lo).drop len).flatten) := by rw [← List.flatten_append, List.take_append_drop, ← List.flatten_append, List.take_append_drop]
      rw [e3]; exact (List.sublist_append_left _ _).trans (List.sublist_append_right _ _)
    refine ⟨(uss.drop lo).take len, (ffs.drop lo).take len, hz, ?_, hcut, F', k1, k2, List.nodup_append.2 ⟨by unfold fbOf; split <;> simp, hsub.nodup m2, fun b hb b' hb' e => m3 b (hfb b hb) b' (hsub.subset hb') e⟩, k4, fun b hb => ?_⟩
    · rw [htl]
      refine ⟨by rw [flatten_len hcut.sz_all, hcut.1, htl], A', cap - lo, rfl, by omega, ?_⟩
      rcases q3 with rfl | ⟨g, o, cur, rfl, hg2, q4, q5, q6⟩
      · exact .inl (by omega)
      · rcases Nat.lt_or_ge lo cap with h0 | h0
        · obtain ⟨g', o', e1, e2⟩ := hA h0
          simp only [Option.some.injEq, Addr.mk.injEq, and_true] at e1
          obtain ⟨rfl, rfl⟩ := e1
          have hm : (cap - lo) * sz + lo * sz = cap * sz := by rw [← Nat.add_mul, Nat.sub_add_cancel (by omega)]
          refine .inr ⟨g, o + lo * sz, cur, e2, hg2, by omega, by omega, ?_⟩
          rw [hfl, ← q6, List.drop_take, List.drop_drop, List.take_take, Nat.min_eq_left]
          have := Nat.mul_le_mul_right sz hl
          rw [Nat.add_mul] at this
          omega
        · exact .inl (by omega)
    · rcases List.mem_append.1 hb with hb | hb
      · exact k5 b (List.mem_append_left _ (hfb b hb))
      · exact k5 b (List.mem_append_right _ (hsub.subset hb))
theorem rowArg_sound (h : Inv P I C R S a F w) {e : Nat} {x : V} {H' : List Blk} (hs : szOf P e = some sz) (hx : Rel P I w R S.H.length true x u []) (hv : rowArg S.H e sz x = some (els, H')) :
    ∃ uss ffs, Own w e sz u els.length uss.flatten ∧ ElsR P I w R S.H.length sz els uss ffs ∧ Gone P I C R S a F w H' (fbOf u ++ ffs.flatten) := by
  unfold rowArg at hv
  split at hv
  · rename_i e'
    split at hv
    · simp only [Option.some.injEq, Prod.mk.injEq] at hv
      obtain ⟨rfl, rfl⟩ := hv
      obtain ⟨hx, _⟩ := hx.vw_leaf rfl
      cases hx with
      | nl _ A =>
        refine ⟨[], [], ⟨by simp, A, 0, rfl, Nat.le_refl _, .inl rfl⟩, .nil, ?_⟩
        have : fbOf (.slice A 0 0) = [] := by cases A <;> rfl
        rw [this]
        exact .none h
    · simp at hv
  · rename_i n sz' lo len
    split at hv
    · rename_i e' els' hg
      split at hv
      · rename_i he
        obtain ⟨rfl, rfl⟩ := he
        simp only [Option.some.injEq, Prod.mk.injEq] at hv
        obtain ⟨rfl, rfl⟩ := hv
        rw [cutV_eq]
        obtain ⟨uss, ffs, _, ho, hel, hgone⟩ := own_cut h hg hs hx
        exact ⟨uss, ffs, ho, hel, hgone⟩
      · simp at hv
    · simp at hv
  · rename_i n
    split at hv
    · rename_i e' els' hg
      split at hv
      · rename_i he
        subst he
        simp only [Option.some.injEq, Prod.mk.injEq] at hv
        obtain ⟨rfl, rfl⟩ := hv
        obtain ⟨uss, ffs, hz, ho, hel, hF⟩ := (h.blk n _ hg).elsOf hs
        have hu : u = R n := by
          cases hx with
          | leaf _ _ _ hb => simp [V.leafB] at hb
          | ow _ _ L c A hR' => exact hR'.symm
        subst hu
        refine ⟨uss, ffs, ho, hel, ?_⟩
        rw [← hF]
        exact .kill h n
      · simp at hv
    · simp at hv
  · simp at hv
/-- What append adds: its cells, one after the other. -/
def SrcOk (P : Program) (I : Nat → Prop) (w : World) (R : Nat → Value) (N : Nat) (sz : Nat) (u : Value) (els : List V) (ffs : List (List Nat)) : Prop :=
  ∃ (A : Option Addr) (c : Nat) (uss : List (List Value)), u = .slice A els.length c ∧ (A = none → els.length = 0) ∧ (∀ ad, A = some ad → ∀ j x, uss.flatten[j]? = some x → w.cell? (ad.add j) = some x) ∧ ElsR P I w R N sz els uss ffs
theorem own_src {e n lo len : Nat} (hb : BlkOk P I w R N n (.row e els []) f) (hs : szOf P e = some sz) (hx : (lo = 0 ∧ len = els.length ∧ u = R n) ∨ Rel P I w R N true (.sb n sz lo len) u []) :
    ∃ uss ffs A c, 0 < sz ∧ Own w e sz (R n) els.length uss.flatten ∧ ElsR P I w R N sz els uss ffs ∧ f = fbOf (R n) ++ ffs.flatten ∧ lo + len ≤ els.length ∧ u = .slice A len c ∧ (A = none → len = 0) ∧ (∀ ad, A = some ad → ∀ j x, ((uss.drop lo).take len).flatten[j]? = some x → w.cell? (ad.add j) = some x) ∧ len ≤ c ∧ (len ≤ 9223372036854775807) ∧ ∀ ad, A = some ad → 0 < len → ad.block ∈ fbOf (R n) := by
  obtain ⟨uss, ffs, hz, ho, hel, hF⟩ := hb.elsOf hs
  have ho' := ho
  obtain ⟨q1, A, cap, hR, q2, q3⟩ := ho
  have hcells : ∀ g o, A = some ⟨g, o, none⟩ → ∀ (lo len : Nat), lo + len ≤ els.length → ∀ j x, ((uss.drop lo).take len).flatten[j]? = some x → w.cell? ⟨g, o + (lo * sz + j), none⟩ = some x := fun g o hA lo len hl j x hj => by
    have hall : ∀ us ∈ (uss.drop lo).take len, us.length = sz := fun us hus => hel.sz_all us (List.mem_of_mem_drop (List.mem_of_mem_take hus))
    obtain ⟨us, hus, hu, hm⟩ := flatten_inv hall hj
    have hus2 : uss[lo + j / sz]? = some us := by
      rw [List.getElem?_take] at hus
      split at hus
      · rwa [List.getElem?_drop] at hus
      · simp at hus
    obtain ⟨g', o', cap', hR', hc⟩ := ho'.cell hel.sz_all hel.1 hus2 hu
    rw [hR, hA] at hR'
    simp only [Value.slice.injEq, Option.some.injEq, Addr.mk.injEq, and_true] at hR'
    rw [← hR'.1.1, ← hR'.1.2] at hc
    have e : (lo + j / sz) * sz + j % sz = lo * sz + j := by
      have := Nat.div_add_mod j sz
      rw [Nat.add_mul, Nat.mul_comm (j / sz)]
      omega
    rwa [e] at hc
  have hmx : els.length ≤ 9223372036854775807 := by
    rcases q3 with rfl | ⟨g, o, cur, _, _, q4, _⟩
    · omega
    · unfold maxLen at q4; omega
  have hbk : ∀ g o, A = some ⟨g, o, none⟩ → 0 < cap → g ∈ fbOf (R n) := fun g o hA hc => by
    rw [hR, hA]
    cases cap with
    | zero => omega
    | succ cap => simp [fbOf]
  rcases hx with ⟨rfl, rfl, rfl⟩ | hx
  · refine ⟨uss, ffs, A, cap, hz, ho', hel, hF, by omega, hR, fun hA => ?_, fun ad had j x hj => ?_, q2, hmx, fun ad had hp => ?_⟩
    · rcases q3 with rfl | ⟨g, o, cur, hA', _⟩
      · omega
      · rw [hA] at hA'; cases hA'
    · rcases q3 with rfl | ⟨g, o, cur, hA', hg, _, _, ht⟩
      · have : uss.length = 0 := by rw [hel.1]; omega
        have : uss = [] := List.eq_nil_of_length_eq_zero this
        subst this
        simp at hj
      · have := hcells g o hA' 0 els.length (by omega) j x hj
        rw [hA'] at had
        obtain rfl := Option.some.inj had
        rw [addr_add]
        simpa using this
    · rcases q3 with rfl | ⟨g, o, cur, hA', _⟩
      · omega
      · rw [hA'] at had
        obtain rfl := Option.some.inj had
        exact hbk g o hA' (by omega)
  · cases hx with
    | leaf _ _ _ hb => simp [V.leafB] at hb
    | sb _ _ _ _ A0 A' L cap' hn hR' hl hA =>
      rw [hR] at hR'
      simp only [Value.slice.injEq] at hR'
      obtain ⟨rfl, rfl, rfl⟩ := hR'
      refine ⟨uss, ffs, A', cap - lo, hz, ho', hel, hF, hl, rfl, fun h0 => ?_, fun ad had j x hj => ?_, by omega, by omega, fun ad had hp => ?_⟩
      · rcases Nat.lt_or_ge lo cap with hlt | hge
        · obtain ⟨g, o, _, h2⟩ := hA hlt
          rw [h0] at h2; cases h2
        · omega
      · rcases Nat.lt_or_ge lo cap with hlt | hge
        · obtain ⟨g, o, h1, h2⟩ := hA hlt
          rw [had] at h2
          obtain rfl := Option.some.inj h2
          rw [addr_add, Nat.add_assoc]
          exact hcells g o h1 lo len hl j x hj
        · have : (uss.drop lo).take len = [] := by
            apply List.eq_nil_of_length_eq_zero
            have := hel.1
            simp; omega
          rw [this] at hj
          simp at hj
      · obtain ⟨g, o, h1, h2⟩ := hA (by omega)
        rw [had] at h2
        obtain rfl := Option.some.inj h2
        exact hbk g o h1 (by omega)
theorem vw_elsR {e : Nat} {A : Option Addr} {c : Nat} (h : Vw P I w (.sl false e els) (.slice A els.length c)) (hs : szOf P e = some sz) : ∃ uss, (A = none → els.length = 0) ∧ (∀ ad, A = some ad → ∀ j x, uss.flatten[j]? = some x → w.cell? (ad.add j) = some x) ∧ ElsR P I w R N sz (els.map V.vw) uss (List.replicate els.length []) := by
  generalize hv : V.sl false e els = v at h
  generalize hu : Value.slice A els.length c = u at h
  cases h with
  | sl o e' els' A' cap sz' uss hs' hz hl hm hn hI hw hlen hc hr =>
    simp only [V.sl.injEq] at hv
    obtain ⟨rfl, rfl, rfl⟩ := hv
    simp only [Value.slice.injEq] at hu
    obtain ⟨rfl, _, rfl⟩ := hu
    obtain rfl : sz' = sz := by rw [hs] at hs'; exact (Option.some.inj hs').symm
    have hall : ∀ us ∈ uss, us.length = sz' := fun us hus => by
      obtain ⟨i, hi, rfl⟩ := List.mem_iff_getElem.1 hus
      exact (hc i _ _ (List.getElem?_eq_getElem (by omega)) (List.getElem?_eq_getElem hi)).2.1
    refine ⟨uss, fun hA => by rw [hn hA]; rfl, fun ad had j x hj => ?_, by simpa using hlen, by simp, fun i x us f hx hus hf => ?_⟩
    · obtain ⟨us, hus, hu, hm⟩ := flatten_inv hall hj
      have := hw ad had _ us _ x hus hu
      rwa [Nat.mul_comm, Nat.div_add_mod] at this
    · have : f = [] := (List.mem_replicate.1 (List.mem_of_getElem? hf)).2
      subst this
      rw [List.getElem?_map] at hx
      cases hi : els[i]? with
      | none => simp [hi] at hx
      | some x0 =>
        simp only [hi, Option.map_some, Option.some.injEq] at hx
        subst hx
        obtain ⟨c1, c2, c3⟩ := hc i x0 us hi hus
        refine ⟨by rw [vw_cells, List.length_map]; exact c1, c2, c3, .of_bare (by rw [vw_cells, List.length_map]; omega) fun j c u hcj hu => ?_⟩
        rw [vw_cells, List.getElem?_map] at hcj
        cases hj : x0.cells[j]? with
        | none => simp [hj] at hcj
        | some c0 =>
          simp only [hj, Option.map_some, Option.some.injEq] at hcj
          subst hcj
          exact (hr i x0 us j c0 u hi hus hj hu).rel false
  | _ => cases hv
theorem flatten_nils (n : Nat) : (List.replicate n ([] : List Nat)).flatten = [] := by simp
theorem take_gap {els : List V} {sz lo len : Nat} (h : lo + len ≤ els.length) : (els.take lo ++ (gap sz len ++ els.drop (lo + len))).length = els.length := by simp [gap]; omega
theorem gap_elsR (len : Nat) (uss : List (List Value)) (hl : uss.length = len) (hz : ∀ us ∈ uss, us.length = sz ∧ ∀ u ∈ us, u.oneCell' = true) : ElsR P I w R N sz (gap sz len) uss (List.replicate len []) := by
  refine ⟨by simp [gap, hl], by simp [gap], fun i x us f hx hus hf => ?_⟩
  have : f = [] := (List.mem_replicate.1 (List.mem_of_getElem? hf)).2
  subst this
  have : x = .agg (List.replicate sz .un) := (List.mem_replicate.1 (List.mem_of_getElem? hx)).2
  subst this
  obtain ⟨h1, h2⟩ := hz us (List.mem_of_getElem? hus)
  refine ⟨by simp [V.cells], h1, h2, .of_bare (by simp [V.cells, h1]) fun j c u hc hu => ?_⟩
  have : c = .un := by
    simp only [V.cells] at hc
    exact (List.mem_replicate.1 (List.mem_of_getElem? hc)).2
  subst this
  exact .leaf _ _ _ rfl (.un _)
theorem srcArg_sound (h : Inv P I C R S a F w) {e : Nat} {x : V} {it : It} {H' : List Blk} {p : List Prop} (hs : szOf P e = some sz) (hx : Rel P I w R S.H.length true x u []) (hv : srcArg P S.H e x it = some (els, H', p)) (hp : conj p) :
    ∃ ffs, SrcOk P I w R S.H.length sz u els ffs ∧ Gone P I C R S a F w H' ffs.flatten := by
  have huo : ∀ {n : Nat}, Rel P I w R S.H.length true (.ow n) u [] → u = R n := fun hx => by
    cases hx with
    | leaf _ _ _ hb => simp [V.leafB] at hb
    | ow _ _ L c A hR' => exact hR'.symm
  unfold srcArg at hv
  split at hv
  · rename_i e' els0 els'
    split at hv
    · rename_i he
      subst he
      simp only [Option.some.injEq, Prod.mk.injEq] at hv
      obtain ⟨rfl, rfl, rfl⟩ := hv
      have hp : els0.map V.vw = els' := hp
      subst hp
      obtain ⟨hx, _⟩ := hx.vw_leaf rfl
      obtain ⟨A, c, rfl⟩ : ∃ A c, u = .slice A els0.length c := by cases hx; exact ⟨_, _, rfl⟩
      obtain ⟨uss, q1, q2, q3⟩ := vw_elsR (R := R) (N := S.H.length) hx hs
      exact ⟨_, ⟨A, c, uss, by simp, by simpa using q1, q2, q3⟩, by rw [flatten_nils]; exact .none h⟩
    · simp at hv
  · rename_i e' els'
    split at hv
    · simp only [Option.some.injEq, Prod.mk.injEq] at hv
      obtain ⟨rfl, rfl, rfl⟩ := hv
      obtain ⟨hx, _⟩ := hx.vw_leaf rfl
      cases hx with
      | nl _ A => exact ⟨[], ⟨A, 0, [], rfl, fun _ => rfl, fun ad had j x hj => by simp at hj, .nil⟩, .none h⟩
    · simp at hv
  · rename_i n els'
    split at hv
    · rename_i e' els0 hg
      split at hv
      · rename_i he
        subst he
        simp only [Option.some.injEq, Prod.mk.injEq] at hv
        obtain ⟨rfl, rfl, rfl⟩ := hv
        obtain ⟨hp1, hp2⟩ := hp
        subst hp1
        obtain ⟨uss, ffs, A, c, hz, ho, hel, hF, hl, hu, hA, hc, _⟩ := own_src (lo := 0) (len := els0.length) (h.blk n _ hg) hs (.inl ⟨rfl, rfl, huo hx⟩)
        have : (uss.drop 0).take els0.length = uss := by rw [List.drop_zero, ← hel.1, List.take_length]
        rw [this] at hc
        exact ⟨_, ⟨A, c, uss, hu, hA, hc, hel.flat hp2⟩, by rw [flatten_nils]; exact .none h⟩
      · simp at hv
    · simp at hv
  · rename_i n sz0 lo len els'
    split at hv
    · rename_i e' els0 hg
      split at hv
      · rename_i he
        obtain ⟨he, hs0⟩ := he
        subst he
        obtain rfl : sz0 = sz := by rw [hs] at hs0; exact (Option.some.inj hs0).symm
        simp only [Option.some.injEq, Prod.mk.injEq] at hv
        obtain ⟨rfl, rfl, rfl⟩ := hv
        obtain ⟨hp1, hp2⟩ := hp
        obtain ⟨uss, ffs, A, c, hz, ho, hel, hF, hl, hu, hA, hc, _⟩ := own_src (lo := lo) (len := len) (h.blk n _ hg) hs (.inr hx)
        have hcut := hel.cut lo len
        rw [hp1] at hcut
        have hll : els'.length = len := by rw [← hp1]; simp; omega
        exact ⟨_, ⟨A, c, _, by rw [hll]; exact hu, by rw [hll]; exact hA, hc, hcut.flat hp2⟩, by rw [flatten_nils]; exact .none h⟩
      · simp at hv
    · simp at hv
  · rename_i n
    split at hv
    · rename_i e' els0 hg
      split at hv
      · rename_i he
        subst he
        simp only [Option.some.injEq, Prod.mk.injEq] at hv
        obtain ⟨rfl, rfl, rfl⟩ := hv
        obtain ⟨uss, ffs, A, c, hz, ho, hel, hF, hl, hu, hA, hc, _⟩ := own_src (lo := 0) (len := els0.length) (h.blk n _ hg) hs (.inl ⟨rfl, rfl, huo hx⟩)
        have : (uss.drop 0).take els0.length = uss := by rw [List.drop_zero, ← hel.1, List.take_length]
        rw [this] at hc
        refine ⟨ffs, ⟨A, c, uss, hu, hA, hc, hel⟩, ?_⟩
        obtain ⟨F', g1, g2, g3, g4, g5⟩ := Gone.kill h n
        rw [hF] at g3 g5
        exact ⟨F', g1, g2, (List.nodup_append.1 g3).2.1, g4, fun b hb => g5 b (List.mem_append_right _ hb)⟩
      · simp at hv
    · simp at hv
  · rename_i n sz0 lo len
    split at hv
    · rename_i e' els0 hg
      split at hv
      · rename_i he
        obtain ⟨he, hs0⟩ := he
        subst he
        obtain rfl : sz0 = sz := by rw [hs] at hs0; exact (Option.some.inj hs0).symm
        simp only [Option.some.injEq, Prod.mk.injEq] at hv
        obtain ⟨rfl, rfl, rfl⟩ := hv
        obtain ⟨uss, ffs, A, c, hz, ho, hel, hF, hl, hu, hA, hc, _⟩ := own_src (lo := lo) (len := len) (h.blk n _ hg) hs (.inr hx)
        have hcut := hel.cut lo len
        have hll : ((els0.drop lo).take len).length = len := by simp; omega
        have hnd := h.nodup n
        rw [hF] at hnd
        obtain ⟨n1, n2, n3⟩ := List.nodup_append.1 hnd
        have hsplit : ffs.flatten = (ffs.take lo).flatten ++ (((ffs.drop lo).take len).flatten ++ (ffs.drop (lo + len)).flatten) := by
          rw [← List.flatten_append, ← List.flatten_append, ← List.drop_drop, List.take_append_drop, List.take_append_drop]
        rw [hsplit] at n2
        obtain ⟨m1, m2, m3⟩ := List.nodup_append.1 n2
        obtain ⟨k1, k2, k3⟩ := List.nodup_append.1 m2
        have hsub : (fbOf (R n) ++ ((ffs.take lo).flatten ++ (ffs.drop (lo + len)).flatten)).Sublist (F n) := by
          rw [hF, hsplit]
          exact (List.Sublist.refl _).append ((List.Sublist.refl _).append (List.sublist_append_right _ _))
        have hmid : ∀ b, b ∈ ((ffs.drop lo).take len).flatten → b ∈ F n := fun b hb => by rw [hF, hsplit]; simp [hb]
        have hrel : ElsR P I w R S.H.length sz0 (els0.take lo ++ (gap sz0 len ++ els0.drop (lo + len))) (uss.take lo ++ ((uss.drop lo).take len ++ uss.drop (lo + len))) (ffs.take lo ++ (List.replicate len [] ++ ffs.drop (lo + len))) := by
          have c1 := hel.cut 0 lo
          have c3 := hel.cut (lo + len) els0.length
          simp only [List.drop_zero] at c1
          have t3 : ∀ {α : Type} (l : List α), l.length = els0.length → (l.drop (lo + len)).take els0.length = l.drop (lo + len) := fun l hl => List.take_of_length_le (by simp; omega)
          rw [t3 _ rfl, t3 _ hel.1, t3 _ hel.2.1] at c3
          have hlu := hel.1
          refine c1.append (.append (gap_elsR len _ (by simp; omega) fun us hus => ?_) c3)
          have hus' := List.mem_of_mem_drop (List.mem_of_mem_take hus)
          exact ⟨hel.sz_all us hus', fun u hu => hel.one u (List.mem_flatten.2 ⟨us, hus', hu⟩)⟩
        have huss : uss.take lo ++ ((uss.drop lo).take len ++ uss.drop (lo + len)) = uss := by rw [← List.drop_drop, List.take_append_drop, List.take_append_drop]
        rw [huss] at hrel
        have hturn := h.turnS n (b' := .row e' (els0.take lo ++ (gap sz0 len ++ els0.drop (lo + len))) []) (Kp.refl _ _) (fun _ _ _ _ => rfl) (f' := fbOf (R n) ++ ((ffs.take lo).flatten ++ (ffs.drop (lo + len)).flatten)) (by
          have := BlkOk.mk (n := n) hs hz (by rw [take_gap hl]; exact ho) hrel
          simpa using this) hsub
        refine ⟨_, ⟨A, c, _, by rw [hll]; exact hu, by rw [hll]; exact hA, hc, hcut⟩, _, hturn, by simp, k1, fun m b hb => ?_, fun b hb => ⟨⟨n, hmid b hb⟩, fun m hm => ?_⟩⟩
        · unfold upd at hb
          split at hb
          · rename_i e; subst e; exact hsub.subset hb
          · exact hb
        · unfold upd at hm
          split at hm
          · simp only [List.mem_append] at hm
            rcases hm with hm | hm | hm
            · exact n3 b hm b (by rw [hsplit]; simp [hb]) rfl
            · exact m3 b hm b (List.mem_append_left _ hb) rfl
            · exact k3 b hb b hm rfl
          · rename_i hmn
            exact hmn (h.disj m n b hm (hmid b hb))
      · simp at hv
    · simp at hv
  · simp at hv
end
end Go.Proofs.YtdahdpnkppknfaaGreatDoorM
