/- What is lent may be read; what a call hands back gets numbers. No condition. -/
import Derived.Test.YtdahdpnkppknfaaGreatDoorM11
namespace Go.Proofs.YtdahdpnkppknfaaGreatDoorM
set_option linter.unusedVariables false
set_option linter.unusedSimpArgs false
open Go.RowKit
section
variable {P : Program} {R R' : Nat → Value} {N N' : Nat} {I I' : Nat → Prop} {w w' : World} {C : Ctx} {S S' : St} {a : Act} {F F' : Nat → List Nat} {t : Bool} {v : V} {u : Value} {f : List Nat} {sz : Nat}
theorem vw_of_els {e : Nat} {els : List V} {uss : List (List Value)} {ffs : List (List Nat)} {A : Option Addr} {c : Nat} (o : Bool) (hs : szOf P e = some sz) (hz : 0 < sz) (h : ElsR P I w R N sz els uss ffs) (hl : els.length ≤ c) (hm : els.length ≤ 9223372036854775807) (hA : A = none → els.length = 0)
    (hc : ∀ ad, A = some ad → ∀ j x, uss.flatten[j]? = some x → w.cell? (ad.add j) = some x) (hb : ∀ ad, A = some ad → 0 < els.length → I' ad.block) (hI : ∀ b, I b → I' b) (hf : ∀ b, b ∈ ffs.flatten → I' b) : Vw P I' w (.sl o e els) (.slice A els.length c) := by
  refine .sl o e els A c sz uss hs hz hl hm (fun h0 => List.eq_nil_of_length_eq_zero (hA h0)) hb (fun ad had i us j u hus hu => ?_) h.1 (fun i x us hx hus => ?_) (fun i x us j c u hx hus hc' hu => ?_)
  · have hj := (List.getElem?_eq_some_iff.1 hu).1
    have hsz := h.sz_all us (List.mem_of_getElem? hus)
    have := flatten_get h.sz_all hus (j := j) (by omega)
    exact hc ad had _ u (by rw [this]; exact hu)
  · have hi := (List.getElem?_eq_some_iff.1 hx).1
    obtain ⟨e1, e2, e3, _⟩ := h.2.2 i x us _ hx hus (List.getElem?_eq_getElem (by have := h.2.1; omega))
    exact ⟨e1, e2, e3⟩
  · have hi := (List.getElem?_eq_some_iff.1 hx).1
    have hff : ffs[i]? = some (ffs[i]'(by have := h.2.1; omega)) := List.getElem?_eq_getElem _
    obtain ⟨e1, e2, e3, e4⟩ := h.2.2 i x us _ hx hus hff
    obtain ⟨u', g, hu', hr, hg⟩ := e4.get hc'
    rw [hu] at hu'
    obtain rfl := Option.some.inj hu'
    exact hr.view rfl hI (fun b hb => hf b (flatten_mem hff (hg b hb))) (fun vs hvs => by
      subst hvs
      exact hr.tup_one (e3 u (List.mem_of_getElem? hu)))
theorem Vw.any {o o' : Bool} {e : Nat} {els : List V} (h : Vw P I w (.sl o e els) u) : Vw P I w (.sl o' e els) u := by
  cases h with
  | sl _ _ _ A cap sz uss hs hz hl hm hn hI hw hlen hc hr => exact .sl o' e els A cap sz uss hs hz hl hm hn hI hw hlen hc hr
theorem lendC_sound (h : Inv P I C R S a F w) (hII : ∀ b, I b → I' b) (hF : ∀ n b, b ∈ F n → I' b) {c : V} {t : Bool} (hc : Rel P I w R S.H.length t c u []) : Vw P I' w (lendC P S.H c) u := by
  cases c with
  | ow n =>
    simp only [lendC]
    split
    · rename_i e els hg
      have hu : u = R n := by
        cases hc with
        | leaf _ _ _ hb => simp [V.leafB] at hb
        | ow _ _ L c A hR' => exact hR'.symm
      subst hu
      have := (h.blk n _ hg).row_rel (R' := R) false
      exact this.view rfl hII (fun b hb => hF n b hb) (fun vs hvs => by cases hvs)
    · exact .un u
  | sb n sz lo len =>
    simp only [lendC]
    split
    · rename_i e els hg
      split
      · rename_i sz' hs
        split
        · rename_i hb
          have hb : sz' = sz := by simpa using hb
          subst hb
          have hc : Rel P I w R S.H.length true (.sb n sz' lo len) u [] := by
            cases t with
            | true => exact hc
            | false => exact hc.weak true
          obtain ⟨uss, ffs, A, c, hz, ho, hel, hFn, hl, hu, hA, hcc, q1, q2, q3⟩ := own_src (lo := lo) (len := len) (h.blk n _ hg) hs (.inr hc)
          have hcut := hel.cut lo len
          have hll : ((els.drop lo).take len).length = len := by simp; omega
          have hlp : 0 < ((els.drop lo).take len).length → 0 < len := fun h => by omega
          have key : Vw P I' w (.sl true e ((els.drop lo).take len)) (.slice A ((els.drop lo).take len).length c) := by
            refine vw_of_els true hs hz hcut (by omega) (by omega) (by rw [hll]; exact hA) hcc (fun ad had hp => hF n _ ?_) hII (fun b hb => hF n b ?_)
            · rw [hFn]; exact List.mem_append_left _ (q3 ad had (hlp hp))
            · rw [hFn]
              obtain ⟨g, hg', hb⟩ := List.mem_flatten.1 hb
              exact List.mem_append_right _ (List.mem_flatten.2 ⟨g, List.mem_of_mem_drop (List.mem_of_mem_take hg'), hb⟩)
          rw [hll] at key
          rw [hu]
          exact key
        · exact .un u
      · exact .un u
    · exact .un u
  | sl o e els =>
    cases o with
    | false => exact (((hc.vw_leaf rfl).1).more hII).any
    | true => exact (hc.openRow (R' := R) (N' := S.H.length) false).view rfl hII (fun b hb => by simp at hb) (fun vs hvs => by cases hvs)
  | nl e =>
    simp only [lendC]
    split
    · rename_i k hs
      cases (hc.vw_leaf rfl).1 with
      | nl _ A => exact .sl true e [] A 0 (k + 1) [] hs (by omega) (by simp) (by simp) (fun _ => rfl) (fun ad had hp => by simp at hp) (fun ad had i us j u hus => by simp at hus) rfl (fun i x us hx => by simp at hx) (fun i x us j c u hx => by simp at hx)
    · exact .un u
  | sc v => exact (hc.vw_leaf rfl).1.more hII
  | cp cs => exact (hc.vw_leaf rfl).1.more hII
  | _ => exact .un u
theorem lend_sound (h : Inv P I C R S a F w) (hII : ∀ b, I b → I' b) (hF : ∀ n b, b ∈ F n → I' b) {v : V} {u : Value} {f : List Nat} (hv : Rel P I w R S.H.length t v u f) : f = [] → Vw P I' w (lend P S.H v) u := by
  induction hv with
  | leaf t v u hb hv =>
    intro _
    have hr : Rel P I w R S.H.length t v u [] := .leaf t v u hb hv
    cases v with
    | un => exact .un u
    | sc v => exact hv.more hII
    | nl e => exact hv.more hII
    | sl o e els => exact (hv.more hII).any
    | cp cs => exact hv.more hII
    | _ => simp [V.leafB] at hb
  | row t e els v sz uss fss hs hz ho hlen hfl hc hr ih =>
    intro h0
    exact (Rel.row (P := P) (I := I) (w := w) (R := R) (N := S.H.length) false e els v sz uss fss hs hz ho hlen hfl hc hr).view rfl hII (fun b hb => by rw [h0] at hb; simp at hb) (fun vs hvs => by cases hvs)
  | agg t cs us fs hlen hf hr h1 ih =>
    intro h0
    refine .agg (lendL P S.H cs) us (by rw [lendL_map, List.length_map]; exact hlen) (fun j c u hc hu => ?_) h1
    rw [lendL_map, List.getElem?_map] at hc
    cases hj : cs[j]? with
    | none => simp [hj] at hc
    | some y =>
      simp only [hj, Option.map_some, Option.some.injEq] at hc
      subst hc
      have hjl := (List.getElem?_eq_some_iff.1 hu).1
      have hfj : fs[j]? = some (fs[j]'(by omega)) := List.getElem?_eq_getElem (by omega)
      exact ih j y u _ hj hu hfj (by
        rcases hx : fs[j]'(by omega) with _ | ⟨k, q⟩
        · rfl
        · have : k ∈ fs.flatten := flatten_mem hfj (by rw [hx]; simp)
          rw [h0] at this
          simp at this)
  | tup => exact fun _ => .un _
  | fn t g cs us hnt hlen hr ih =>
    intro h0
    refine .fn g (lendL P S.H cs) us (by rw [lendL_map, List.length_map]; exact hlen) (fun j c u hc hu => ?_)
    rw [lendL_map, List.getElem?_map] at hc
    cases hj : cs[j]? with
    | none => simp [hj] at hc
    | some y =>
      simp only [hj, Option.map_some, Option.some.injEq] at hc
      subst hc
      exact ih j y u hj hu rfl
  | ptr n off g hn hR =>
    intro h0
    simp only [lend]
    split
    · rename_i e cs hb
      split
      · rename_i hoff
        have hoff : off + 1 ≤ cs.length := by simpa using hoff
        obtain ⟨g', us, hg, hnl, hR', hus, hr, h1, hFn⟩ := h.box hb
        obtain rfl : g' = g := by rw [hR] at hR'; simpa using hR'.symm
        have hl := hr.len
        refine .cp _ _ (us.toList.drop off) (hF n g' (by rw [hFn]; simp)) rfl (fun j x hx => ?_) (by rw [List.length_map, List.length_drop, List.length_drop, hl]) (fun j c u hc hu => ?_) (fun x hx => h1 x (List.mem_of_mem_drop hx))
        · rw [cell_of_row w g' (off + j) us e (0, 0) hus]
          rw [List.getElem?_drop] at hx
          simpa using hx
        · rw [List.getElem?_map, List.getElem?_drop] at hc
          rw [List.getElem?_drop] at hu
          cases hj : cs[off + j]? with
          | none => simp [hj] at hc
          | some y =>
            simp only [hj, Option.map_some, Option.some.injEq] at hc
            subst hc
            exact lendC_sound h hII hF (hr.bare _ y u hj hu)
      · exact .un _
    · exact .un _
  | ow n hn L cap A hR => exact fun _ => lendC_sound h hII hF (Rel.ow (P := P) (I := I) (w := w) n hn L cap A hR)
  | sb n sz lo len A A' L cap hn hR hl hA => exact fun _ => lendC_sound h hII hF (Rel.sb (P := P) (I := I) (w := w) n sz lo len A A' L cap hn hR hl hA)
  | ep => exact fun _ => .un _
  | mp => exact fun _ => .un _
  | bx => intro h0; cases h0
theorem keep_sound {v : V} {u : Value} {f : List Nat} (hv : Rel P I w R N t v u f) (H : List Blk) : v.keep = true → Vw P I w (lend P H v) u := by
  induction hv with
  | leaf t v u hb hv =>
    intro _
    cases v with
    | un => exact .un u
    | sc v => exact hv
    | nl e => exact hv
    | sl o e els => exact hv.any
    | cp cs => exact hv
    | _ => simp [V.leafB] at hb
  | row => intro hk; simp [V.keep] at hk
  | agg t cs us fs hlen hf hr h1 ih =>
    intro hk
    simp only [V.keep, keepL_all, List.all_eq_true] at hk
    refine .agg (lendL P H cs) us (by rw [lendL_map, List.length_map]; exact hlen) (fun j c u hc hu => ?_) h1
    rw [lendL_map, List.getElem?_map] at hc
    cases hj : cs[j]? with
    | none => simp [hj] at hc
    | some y =>
      simp only [hj, Option.map_some, Option.some.injEq] at hc
      subst hc
      have hjl := (List.getElem?_eq_some_iff.1 hu).1
      exact ih j y u _ hj hu (List.getElem?_eq_getElem (by omega)) (hk y (List.mem_of_getElem? hj))
  | tup => intro hk; simp [V.keep] at hk
  | fn t g cs us hnt hlen hr ih =>
    intro hk
    simp only [V.keep, keepL_all, List.all_eq_true] at hk
    refine .fn g (lendL P H cs) us (by rw [lendL_map, List.length_map]; exact hlen) (fun j c u hc hu => ?_)
    rw [lendL_map, List.getElem?_map] at hc
    cases hj : cs[j]? with
    | none => simp [hj] at hc
    | some y =>
      simp only [hj, Option.map_some, Option.some.injEq] at hc
      subst hc
      exact ih j y u hj hu (hk y (List.mem_of_getElem? hj))
  | ptr => intro hk; simp [V.keep] at hk
  | ow => intro hk; simp [V.keep] at hk
  | ep => intro hk; simp [V.keep] at hk
  | sb => intro hk; simp [V.keep] at hk
  | mp => intro hk; simp [V.keep] at hk
  | bx => intro hk; simp [V.keep] at hk
/-- Numbers come; those that there were stay as they were. -/
structure Ext (P : Program) (I : Nat → Prop) (C : Ctx) (R : Nat → Value) (S : St) (a : Act) (F : Nat → List Nat) (w : World) (bs : List Blk) (f : List Nat) (R' : Nat → Value) (F' : Nat → List Nat) : Prop where
  inv : Inv P I C R' { S with H := S.H ++ bs } a F' w
  env : ∀ n, n < S.H.length → R' n = R n
  old : ∀ n b, b ∈ F' n → b ∈ F n ∨ b ∈ f
theorem Ext.refl (h : Inv P I C R S a F w) : Ext P I C R S a F w [] [] R F := ⟨by simpa using h, fun _ _ => rfl, fun _ _ h => .inl h⟩
theorem Ext.trans {bs bs' : List Blk} {f f' : List Nat} {R1 R2 : Nat → Value} {F1 F2 : Nat → List Nat} (h : Ext P I C R S a F w bs f R1 F1) (h' : Ext P I C R1 { S with H := S.H ++ bs } a F1 w bs' f' R2 F2) : Ext P I C R S a F w (bs ++ bs') (f ++ f') R2 F2 := by
  refine ⟨by simpa using h'.inv, fun n hn => (h'.env n (by simp; omega)).trans (h.env n hn), fun n b hb => ?_⟩
  rcases h'.old n b hb with hb | hb
  · exact (h.old n b hb).imp id (List.mem_append_left _)
  · exact .inr (List.mem_append_right _ hb)
mutual
theorem openV_sound : ∀ (v : V) (u : Value) (f : List Nat) (R : Nat → Value) (S : St) (F : Nat → List Nat), Inv P I C R S a F w → Rel P I w (fun _ => undef) 0 false v u f → f.Nodup → (∀ b, b ∈ f → ¬ C.O b ∧ ∀ m, b ∉ F m) →
    ∃ R' F', Ext P I C R S a F w (openV S.H.length v).2 f R' F' ∧ Rel P I w R' (S.H ++ (openV S.H.length v).2).length true (openV S.H.length v).1 u [] ∧ hd v u = (leafs S.H.length v).map R' ∧ ∀ n ∈ leafs S.H.length v, n < (S.H ++ (openV S.H.length v).2).length
  | .sl true e els, u, f, R, S, F, h, hr, hn, hf => by
    have hrel : Rel P I w (updR R S.H.length u) (S.H.length + 1) true (.sl true e els) u f := hr.weak true
    obtain ⟨A, cap, hu⟩ := hr.row_slice
    have hnew := h.new (b := .row e els []) (r := u) (f := f) (Kp.refl _ _) (fun _ _ _ => rfl) (hrel.row_blk (updR_self _ _ _)) hn (fun b hb => ⟨(hf b hb).1, fun m _ => (hf b hb).2 m⟩)
    refine ⟨_, _, ⟨hnew, updR_lt _ _ _, fun n b hb => ?_⟩, ?_, ?_, ?_⟩
    · unfold upd at hb
      split at hb
      · exact .inr hb
      · exact .inl hb
    · subst hu
      simp only [openV]
      exact .ow S.H.length (by simp) _ cap A (updR_self _ _ _)
    · simp [hd, leafs, updR_self]
    · simp [leafs, openV]
  | .agg cs, u, f, R, S, F, h, hr, hn, hf => by
    obtain ⟨us, rfl, h1, h2⟩ := hr.agg_inv
    obtain ⟨R', F', e1, e2, e3, e4⟩ := openL_sound cs us f R S F h h1 hn hf
    refine ⟨R', F', by simpa [openV] using e1, ?_, by simpa [hd, leafs] using e3, by simpa [leafs, openV] using e4⟩
    have := Rel.agg_mk e2 h2
    simpa [openV] using this
  | .tup cs, u, f, R, S, F, h, hr, hn, hf => by
    obtain ⟨us, rfl, h1⟩ := hr.tup_inv
    obtain ⟨R', F', e1, e2, e3, e4⟩ := openL_sound cs us f R S F h h1 hn hf
    refine ⟨R', F', by simpa [openV] using e1, ?_, by simpa [hd, leafs] using e3, by simpa [leafs, openV] using e4⟩
    have := Rel.tup_mk e2
    simpa [openV] using this
  | .bx e cs, u, f, R, S, F, h, hr, hn, hf => by
    obtain ⟨g, us, k, rfl, hg, rfl, h1, h2⟩ := hr.bx_inv (R' := fun _ => undef) (N' := 0)
    obtain ⟨hgk, hkn⟩ := List.nodup_cons.1 hn
    obtain ⟨R', F', e1, e2, e3, e4⟩ := openL_sound cs us.toList k R S F h h1 hkn (fun b hb => hf b (List.mem_cons_of_mem _ hb))
    generalize hop : openL S.H.length cs = op at *
    obtain ⟨cs', bs⟩ := op
    have hl : (S.H ++ bs).length = S.H.length + bs.length := by simp
    have hnew := e1.inv.new (b := .box e cs') (r := .pointer (some ⟨g, 0, none⟩)) (f := [g]) (Kp.refl _ _) (fun _ _ _ => rfl) ⟨g, us, updR_self _ _ _, hg, RelL.env e2 (by simp) (updR_lt _ _ _), h2, rfl⟩ (by simp) (fun b hb => by
      simp at hb; subst hb
      refine ⟨(hf b (by simp)).1, fun m _ hm => ?_⟩
      rcases e1.old m b hm with hm | hm
      · exact (hf b (by simp)).2 m hm
      · exact hgk hm)
    refine ⟨_, _, ⟨by simpa [openV, hop] using hnew, fun n hn => ?_, fun n b hb => ?_⟩, ?_, ?_, ?_⟩
    · rw [updR_lt _ _ _ n (by omega)]
      exact e1.env n hn
    · unfold upd at hb
      split at hb
      · simp at hb; subst hb; exact .inr (by simp)
      · exact (e1.old n b hb).imp id (List.mem_cons_of_mem _)
    · simp only [openV, hop]
      have := Rel.ptr (P := P) (I := I) (w := w) (R := updR R' (S.H ++ bs).length (.pointer (some ⟨g, 0, none⟩))) (N := (S.H ++ (bs ++ [Blk.box e cs'])).length) (S.H.length + bs.length) 0 g (by simp) (by rw [← hl]; exact updR_self _ _ _)
      simpa using this
    · simp only [hd, leafs, hop, List.map_cons, List.map_nil]
      rw [← hl, updR_self]
    · simp only [leafs, hop, openV]
      simp
  | .un, u, f, R, S, F, h, hr, hn, hf => by
    obtain ⟨h1, rfl⟩ := hr.vw_leaf rfl
    exact ⟨R, F, by simpa [openV] using Ext.refl h, .leaf _ _ _ rfl h1, rfl, by simp [leafs]⟩
  | .sc v, u, f, R, S, F, h, hr, hn, hf => by
    obtain ⟨h1, rfl⟩ := hr.vw_leaf rfl
    exact ⟨R, F, by simpa [openV] using Ext.refl h, .leaf _ _ _ rfl h1, rfl, by simp [leafs]⟩
  | .nl e, u, f, R, S, F, h, hr, hn, hf => by
    obtain ⟨h1, rfl⟩ := hr.vw_leaf rfl
    exact ⟨R, F, by simpa [openV] using Ext.refl h, .leaf _ _ _ rfl h1, rfl, by simp [leafs]⟩
  | .sl false e els, u, f, R, S, F, h, hr, hn, hf => by
    obtain ⟨h1, rfl⟩ := hr.vw_leaf rfl
    exact ⟨R, F, by simpa [openV] using Ext.refl h, .leaf _ _ _ rfl h1, rfl, by simp [leafs]⟩
  | .cp cs, u, f, R, S, F, h, hr, hn, hf => by
    obtain ⟨h1, rfl⟩ := hr.vw_leaf rfl
    exact ⟨R, F, by simpa [openV] using Ext.refl h, .leaf _ _ _ rfl h1, rfl, by simp [leafs]⟩
  | .fn g cs, u, f, R, S, F, h, hr, hn, hf => by
    cases hr with
    | leaf _ _ _ hb => simp [V.leafB] at hb
    | fn _ _ _ us hnt hlen hr => exact ⟨R, F, by simpa [openV] using Ext.refl h, (Rel.fn false g cs us hnt hlen hr).weak true, rfl, by simp [leafs]⟩
  | .ptr _ _, u, f, R, S, F, h, hr, hn, hf => by cases hr with | leaf _ _ _ hb => simp [V.leafB] at hb
  | .ow _, u, f, R, S, F, h, hr, hn, hf => by cases hr with | leaf _ _ _ hb => simp [V.leafB] at hb
  | .ep _ _ _ _, u, f, R, S, F, h, hr, hn, hf => by cases hr with | leaf _ _ _ hb => simp [V.leafB] at hb
  | .sb _ _ _ _, u, f, R, S, F, h, hr, hn, hf => by cases hr with | leaf _ _ _ hb => simp [V.leafB] at hb
  | .mp _, u, f, R, S, F, h, hr, hn, hf => by cases hr with | leaf _ _ _ hb => simp [V.leafB] at hb
theorem openL_sound : ∀ (cs : List V) (us : List Value) (f : List Nat) (R : Nat → Value) (S : St) (F : Nat → List Nat), Inv P I C R S a F w → RelL P I w (fun _ => undef) 0 false cs us f → f.Nodup → (∀ b, b ∈ f → ¬ C.O b ∧ ∀ m, b ∉ F m) →
    ∃ R' F', Ext P I C R S a F w (openL S.H.length cs).2 f R' F' ∧ RelL P I w R' (S.H ++ (openL S.H.length cs).2).length true (openL S.H.length cs).1 us [] ∧ hdL cs us = (leafsL S.H.length cs).map R' ∧ ∀ n ∈ leafsL S.H.length cs, n < (S.H ++ (openL S.H.length cs).2).length
  | [], us, f, R, S, F, h, hr, hn, hf => by
    obtain ⟨rfl, rfl⟩ := hr.nil_inv
    exact ⟨R, F, by simpa [openL] using Ext.refl h, .nil, rfl, by simp [leafsL]⟩
  | c :: cs, us, f, R, S, F, h, hr, hn, hf => by
    obtain ⟨u, us', g, g', rfl, rfl, h1, h2⟩ := hr.uncons
    obtain ⟨n1, n2, n3⟩ := List.nodup_append.1 hn
    obtain ⟨R1, F1, e1, e2, e3, e4⟩ := openV_sound c u g R S F h h1 n1 (fun b hb => hf b (List.mem_append_left _ hb))
    have hl : ({ S with H := S.H ++ (openV S.H.length c).2 } : St).H.length = S.H.length + (openV S.H.length c).2.length := by simp
    obtain ⟨R2, F2, q1, q2, q3, q4⟩ := openL_sound cs us' g' R1 { S with H := S.H ++ (openV S.H.length c).2 } F1 e1.inv h2 n2 (fun b hb => ⟨(hf b (List.mem_append_right _ hb)).1, fun m hm => by
      rcases e1.old m b hm with hm | hm
      · exact (hf b (List.mem_append_right _ hb)).2 m hm
      · exact n3 b hm b hb rfl⟩)
    have ho : openL S.H.length (c :: cs) = ((openV S.H.length c).1 :: (openL (S.H.length + (openV S.H.length c).2.length) cs).1, (openV S.H.length c).2 ++ (openL (S.H.length + (openV S.H.length c).2.length) cs).2) := rfl
    have hls : leafsL S.H.length (c :: cs) = leafs S.H.length c ++ leafsL (S.H.length + (openV S.H.length c).2.length) cs := rfl
    rw [hl] at q1 q2 q3 q4
    rw [ho, hls]
    refine ⟨R2, F2, e1.trans q1, ?_, ?_, ?_⟩
    · have e2' := e2.env (N' := (S.H ++ ((openV S.H.length c).2 ++ (openL (S.H.length + (openV S.H.length c).2.length) cs).2)).length) (R' := R2) (by simp) (fun n hn => q1.env n (by rw [hl]; simpa using hn))
      have := PwL.cons e2' (by simpa [List.append_assoc] using q2)
      simpa using this
    · simp only [hdL, List.map_append, e3, q3]
      congr 1
      refine List.map_congr_left fun n hn => ?_
      exact (q1.env n (by rw [hl]; simpa using e4 n hn)).symm
    · intro n hn
      rcases List.mem_append.1 hn with hn | hn
      · have := e4 n hn
        simp at this ⊢; omega
      · have := q4 n hn
        simpa [List.append_assoc] using this
end
end
end Go.Proofs.YtdahdpnkppknfaaGreatDoorM
