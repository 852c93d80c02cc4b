/- What a function hands back; functions. No condition. -/
import Derived.Test.YtdahdpnkppknfaaGreatDoorM15
namespace Go.Proofs.YtdahdpnkppknfaaGreatDoorM
set_option linter.unusedVariables false
set_option linter.unusedSimpArgs false
open Go.RowKit

/-- One result. -/
def vresult (P : Program) (S : St) (r : ResultVar × TypeId) : Option V :=
  match r.1 with
  | .tmp t => some (nrm P r.2 (ev S.G (.tmp t)))
  | .cell t ty => match ev S.G (.tmp t) with
    | .ptr d off => match homeBox S.H d, vagg P ty, szOf P ty with
      | some (_, cs), some true, some n => if off + n ≤ cs.length then some (.agg ((cs.drop off).take n)) else none
      | some (_, cs), some false, _ => (cs[off]?).map (nrm P ty)
      | _, _, _ => none
    | _ => none
/-- A result, as the model reads it. -/
def resultRun (tmps : Array Value) : ResultVar → Sem Value
  | .tmp t => pure (tmps.getD t undef)
  | .cell a t => do loadVar t (← asAddr (tmps.getD a undef))
def takeVs (P : Program) (H : List Blk) : List V → Option (List V × List Blk)
  | [] => some ([], H)
  | v :: vs => match takeV P H v with
    | some (v', H1, _) => match takeVs P H1 vs with
      | some (vs', H2) => some (v' :: vs', H2)
      | none => none
    | none => none
def vres (P : Program) (fn : Func) (S : St) : Option (V × List Blk) :=
  match Nat.beq fn.results.toList.length fn.resultTypes.toList.length with
  | true => match (fn.results.toList.zip fn.resultTypes.toList).mapM (vresult P S) with
    | some vs => match takeVs P S.H vs with
      | some ([v], H1) => some (v, H1)
      | some (rs, H1) => some (.tup rs, H1)
      | none => none
    | none => none
  | false => none
/-- The arguments, as the frame has them; the numbers of what was given. -/
def argsOpen (N : Nat) : List (Bool × V) → List V × List Blk × List Nat
  | [] => ([], [], [])
  | (true, v) :: as => match argsOpen (N + (openV N v).2.length) as with
    | (vs, bs, ls) => ((openV N v).1 :: vs, (openV N v).2 ++ bs, leafs N v ++ ls)
  | (false, v) :: as => match argsOpen N as with
    | (vs, bs, ls) => (v.vw :: vs, bs, ls)
def outOne (P : Program) (H : List Blk) (n : Nat) : Option (V × List Blk × List (Option Nat)) :=
  match H[n]? with
  | some (.row _ _ _) => takeV P H (.ow n)
  | some (.box _ _) => takeV P H (.ptr n 0)
  | _ => none
/-- What lies at the end where the call was given something. -/
def outsOf (P : Program) : List Blk → List (Option Nat) → Nat → List V
  | H, some n :: gs, k + 1 => match outOne P H n with
    | some (v, H', _) => v :: outsOf P H' gs k
    | none => .un :: outsOf P H gs k
  | H, none :: gs, k + 1 => .un :: outsOf P H gs k
  | _, _, _ => []
section
variable {P : Program} {R R' : Nat → Value} {N N' : Nat} {I I' : Nat → Prop} {w w' : World} {C : Ctx} {S S' : St} {a : Act} {F F' : Nat → List Nat} {t : Bool} {v v' : V} {u : Value} {f : List Nat} {sz : Nat}
theorem vresult_sound (h : Inv P I C R S a F w) {r : ResultVar × TypeId} {v : V} (hv : vresult P S r = some v) :
    ∃ u, (resultRun a.tmps r.1).run P w = .ok u w ∧ Rel P I w R S.H.length true v u [] := by
  unfold resultRun
  obtain ⟨rv, ty0⟩ := r
  unfold vresult at hv
  split at hv
  · rename_i t ht
    simp only at ht
    subst ht
    obtain rfl := Option.some.inj hv
    exact ⟨a.tmps.getD t undef, rfl, (h.ev (.tmp t)).nrm _⟩
  · rename_i t ty ht
    simp only at ht
    subst ht
    have hx := h.ev (.tmp t)
    split at hv
    · rename_i d off hex
      rw [hex] at hx
      simp only [Act.eval] at hx
      obtain ⟨g, hn, hR, hρ, _⟩ := hx.ptr_inv
      split at hv
      · rename_i e cs n hb ha hs
        split at hv
        · rename_i hle
          obtain rfl := Option.some.inj hv
          obtain ⟨g', us, hg, hnl, hR', hus, hr, h1, hF⟩ := h.box hb
          obtain rfl : g' = g := by rw [hR] at hR'; simpa using hR'.symm
          have hl := hr.len
          have hrun := run_load_aggs (P := P) (w := w) (g := g') (off := off) (us := (us.toList.drop off).take n) ha hs (by rw [List.length_take, List.length_drop]; omega) (fun j u hu => by
            rw [cell_of_row w g' (off + j) us e (0, 0) hus]
            rw [List.getElem?_take] at hu
            split at hu
            · simpa using hu
            · simp at hu)
          refine ⟨_, by simp only [hρ, asAddr, Sem.run_bind, Sem.run_pure, Result.andThen_ok, hrun]; rfl, ?_⟩
          refine Rel.agg_mk (.of_bare (by simp [hl]) fun j c u hc hu => ?_) (fun y hy => h1 y (List.mem_of_mem_drop (List.mem_of_mem_take hy)))
          rw [List.getElem?_take] at hc hu
          split at hc
          · rename_i hj
            rw [if_pos hj] at hu
            rw [List.getElem?_drop] at hc hu
            exact hr.bare _ c u hc hu
          · simp at hc
        · simp at hv
      · rename_i e cs hb ha
        obtain ⟨c, hc, rfl⟩ := Option.map_eq_some_iff.1 hv
        obtain ⟨g', us, hg, hnl, hR', hus, hr, h1, hF⟩ := h.box hb
        obtain rfl : g' = g := by rw [hR] at hR'; simpa using hR'.symm
        obtain ⟨u, g0, hu, hrel, _⟩ := hr.get hc
        have hrun := run_load_box (P := P) ha hus hu
        exact ⟨u, by simp only [hρ, asAddr, Sem.run_bind, Sem.run_pure, Result.andThen_ok, hrun], (hr.bare off c u hc hu).nrm _⟩
      · simp at hv
    · simp at hv
theorem vresults_sound (h : Inv P I C R S a F w) : ∀ (l : List (ResultVar × TypeId)) (vs : List V), l.mapM (vresult P S) = some vs →
    ∃ us, ((l.map Prod.fst).mapM (resultRun a.tmps)).run P w = .ok us w ∧ RelL P I w R S.H.length true vs us []
  | [], vs, hv => by simp at hv; subst hv; exact ⟨[], rfl, .nil⟩
  | r :: l, vs, hv => by
    simp only [List.mapM_cons, bind, Option.bind_eq_some_iff, pure, Option.some.injEq] at hv
    obtain ⟨v, h1, vs', h2, rfl⟩ := hv
    obtain ⟨u, e1, e2⟩ := vresult_sound h h1
    obtain ⟨us, e3, e4⟩ := vresults_sound h l vs' h2
    refine ⟨u :: us, ?_, by simpa using PwL.cons e2 e4⟩
    rw [List.map_cons, List.mapM_cons]
    simp only [Sem.run_bind, e1, Result.andThen_ok, e3, Sem.run_pure]
theorem takeVs_sound : ∀ (vs vs' : List V) (us : List Value) (S : St) (F : Nat → List Nat) (H' : List Blk), Inv P I C R S a F w → RelL P I w R S.H.length true vs us [] → takeVs P S.H vs = some (vs', H') → ∃ f, Gone P I C R S a F w H' f ∧ RelL P I w R S.H.length false vs' us f
  | [], vs', us, S, F, H', h, hr, ht => by
    simp only [takeVs, Option.some.injEq, Prod.mk.injEq] at ht
    obtain ⟨rfl, rfl⟩ := ht
    obtain ⟨rfl, _⟩ := hr.nil_inv
    exact ⟨[], .none h, .nil⟩
  | c :: cs, vs', us, S, F, H', h, hr, ht => by
    obtain ⟨u, us', g, g', rfl, hg, hc, hcs⟩ := hr.uncons
    obtain ⟨rfl, rfl⟩ : g = [] ∧ g' = [] := by simpa using hg.symm
    unfold takeVs at ht
    split at ht
    · rename_i c' H1 s1 h1
      split at ht
      · rename_i cs1 H2 h2
        simp only [Option.some.injEq, Prod.mk.injEq] at ht
        obtain ⟨rfl, rfl⟩ := ht
        obtain ⟨f, ⟨F1, hI1, hN1, hn, hm, hf⟩, hc', hs1⟩ := takeV_sound h hc h1
        obtain ⟨f2, hg2, hcs'⟩ := takeVs_sound cs cs1 us' { S with H := H1 } F1 H2 hI1 (by dsimp only; rw [hN1]; exact hcs) h2
        dsimp only at hcs'
        rw [hN1] at hcs'
        exact ⟨f ++ f2, .then hN1 hn hm hf hg2, .cons hc' hcs'⟩
      · simp at ht
    · simp at ht
theorem vres_sound (h : Inv P I C R S a F w) {fn : Func} {v : V} {H1 : List Blk} (hv : vres P fn S = some (v, H1)) :
    ∃ u f, (results fn a.tmps).run P w = .ok u w ∧ Rel P I w R S.H.length false v u f ∧ Gone P I C R S a F w H1 f := by
  unfold vres at hv
  split at hv
  · rename_i hlen
    have hlen : fn.results.toList.length = fn.resultTypes.toList.length := by simpa using hlen
    have hmap : (fn.results.toList.zip fn.resultTypes.toList).map Prod.fst = fn.results.toList := List.map_fst_zip (by omega)
    split at hv
    · rename_i vs hvs
      obtain ⟨us, h1, h2⟩ := vresults_sound h _ _ hvs
      rw [hmap] at h1
      have hrun : (fn.results.mapM (resultRun a.tmps)).run P w = .ok us.toArray w := by
        rw [Array.mapM_eq_mapM_toList, Sem.run_map, h1]
        rfl
      split at hv
      · rename_i v' H2 hs
        simp only [Option.some.injEq, Prod.mk.injEq] at hv
        obtain ⟨rfl, rfl⟩ := hv
        obtain ⟨f, hg, hr⟩ := takeVs_sound _ _ _ _ _ _ h h2 hs
        obtain ⟨u, us', g, g', rfl, rfl, e1, e2⟩ := hr.uncons
        obtain ⟨rfl, rfl⟩ := e2.nil_inv
        refine ⟨u, g, ?_, e1, by simpa using hg⟩
        unfold results
        simp only [Sem.run_bind]
        refine Eq.trans (congrArg (fun r => Result.andThen r _) hrun) ?_
        simp
      · rename_i rs H2 hne hs
        simp only [Option.some.injEq, Prod.mk.injEq] at hv
        obtain ⟨rfl, rfl⟩ := hv
        obtain ⟨f, hg, hr⟩ := takeVs_sound _ _ _ _ _ _ h h2 hs
        refine ⟨.tuple us.toArray, f, ?_, Rel.tup_mk hr, hg⟩
        unfold results
        simp only [Sem.run_bind]
        refine Eq.trans (congrArg (fun r => Result.andThen r _) hrun) ?_
        have : ¬ us.toArray.size = 1 := fun h1 => by
          have h2 : rs.length = 1 := by rw [hr.len]; simpa using h1
          match rs, h2 with
          | [v], _ => exact hne v rfl
        simp only [Result.andThen_ok, dif_neg this, Sem.run_pure]
      · simp at hv
    · simp at hv
  · simp at hv

theorem argsOpen_sound : ∀ (as : List (Bool × V)) (us : List Value) (f : List Nat) (R : Nat → Value) (S : St) (F : Nat → List Nat), Inv P I C R S a F w → ArgsR P I w as us f → f.Nodup → (∀ b, b ∈ f → ¬ C.O b ∧ ∀ m, b ∉ F m) →
    ∃ R' F', Ext P I C R S a F w (argsOpen S.H.length as).2.1 f R' F' ∧ RelL P I w R' (S.H ++ (argsOpen S.H.length as).2.1).length true (argsOpen S.H.length as).1 us [] ∧ heads as us = (argsOpen S.H.length as).2.2.map R' ∧ ∀ n ∈ (argsOpen S.H.length as).2.2, n < (S.H ++ (argsOpen S.H.length as).2.1).length
  | [], [], f, R, S, F, h, hr, hn, hf => by
    have hr : f = [] := hr
    subst hr
    exact ⟨R, F, by simpa [argsOpen] using Ext.refl h, .nil, rfl, by simp [argsOpen]⟩
  | [], _ :: _, f, R, S, F, h, hr, hn, hf => hr.elim
  | (true, v) :: as, [], f, R, S, F, h, hr, hn, hf => hr.elim
  | (false, v) :: as, [], f, R, S, F, h, hr, hn, hf => hr.elim
  | (true, v) :: as, u :: us, f, R, S, F, h, ⟨g, g', e, h1, h2⟩, hn, hf => by
    subst e
    obtain ⟨n1, n2, n3⟩ := List.nodup_append.1 hn
    obtain ⟨R1, F1, e1, e2, e3, e4⟩ := openV_sound v u g R S F h h1 n1 (fun b hb => hf b (List.mem_append_left _ hb))
    have hl : ({ S with H := S.H ++ (openV S.H.length v).2 } : St).H.length = S.H.length + (openV S.H.length v).2.length := by simp
    obtain ⟨R2, F2, q1, q2, q3, q4⟩ := argsOpen_sound as us g' R1 { S with H := S.H ++ (openV S.H.length v).2 } F1 e1.inv h2 n2 (fun b hb => ⟨(hf b (List.mem_append_right _ hb)).1, fun m hm => by
      rcases e1.old m b hm with hm | hm
      · exact (hf b (List.mem_append_right _ hb)).2 m hm
      · exact n3 b hm b hb rfl⟩)
    rw [hl] at q1 q2 q3 q4
    have ho : argsOpen S.H.length ((true, v) :: as) = ((openV S.H.length v).1 :: (argsOpen (S.H.length + (openV S.H.length v).2.length) as).1, (openV S.H.length v).2 ++ (argsOpen (S.H.length + (openV S.H.length v).2.length) as).2.1, leafs S.H.length v ++ (argsOpen (S.H.length + (openV S.H.length v).2.length) as).2.2) := rfl
    rw [ho]
    refine ⟨R2, F2, e1.trans q1, ?_, ?_, ?_⟩
    · have e2' := e2.env (N' := (S.H ++ ((openV S.H.length v).2 ++ (argsOpen (S.H.length + (openV S.H.length v).2.length) as).2.1)).length) (R' := R2) (by simp) (fun n hn => q1.env n (by rw [hl]; simpa using hn))
      have := PwL.cons e2' (by simpa [List.append_assoc] using q2)
      simpa using this
    · simp only [heads, List.map_append, e3, q3]
      congr 1
      refine List.map_congr_left fun n hn => ?_
      exact (q1.env n (by rw [hl]; simpa using e4 n hn)).symm
    · intro n hn
      rcases List.mem_append.1 hn with hn | hn
      · have := e4 n hn
        simp at this ⊢; omega
      · have := q4 n hn
        simpa [List.append_assoc] using this
  | (false, v) :: as, u :: us, f, R, S, F, h, ⟨h1, h2⟩, hn, hf => by
    obtain ⟨R2, F2, q1, q2, q3, q4⟩ := argsOpen_sound as us f R S F h h2 hn hf
    have ho : argsOpen S.H.length ((false, v) :: as) = (v.vw :: (argsOpen S.H.length as).1, (argsOpen S.H.length as).2.1, (argsOpen S.H.length as).2.2) := rfl
    rw [ho]
    exact ⟨R2, F2, q1, by simpa using PwL.cons (h1.rel true) q2, by simpa [heads] using q3, q4⟩
theorem ArgsR.len : ∀ (as : List (Bool × V)) (us : List Value) (f : List Nat), ArgsR P I w as us f → as.length = us.length
  | [], [], _, _ => rfl
  | [], _ :: _, _, h => h.elim
  | (true, v) :: as, [], _, h => h.elim
  | (false, v) :: as, [], _, h => h.elim
  | (true, v) :: as, u :: us, f, ⟨g, g', e, h1, h2⟩ => by simp [ArgsR.len as us g' h2]
  | (false, v) :: as, u :: us, f, ⟨h1, h2⟩ => by simp [ArgsR.len as us f h2]
def ctxOf (w : World) (fa : List Nat) (hs : List Value) : Ctx := ⟨fun b => b < w.heap.size ∧ b ∉ fa, w, fun j => hs.getD j undef⟩
theorem args_inv {args : List (Bool × V)} {us : List Value} {fa : List Nat} (n : Nat) (hI : ∀ b, I b → b < w.heap.size) (hn : fa.Nodup) (hfa : ∀ b, b ∈ fa → ¬ I b) (hr : ArgsR P I w args us fa) (hg : Gl w fa) :
    InvE P I (ctxOf w fa (heads args us)) ⟨(argsOpen 0 args).1 ++ List.replicate (n - args.length) .un, (argsOpen 0 args).2.1, (argsOpen 0 args).2.2.map some⟩ { tmps := us.toArray ++ Array.replicate (n - us.toArray.size) undef, defers := [] } w ∧ (argsOpen 0 args).2.2.length = (heads args us).length := by
  have hlen := ArgsR.len _ _ _ hr
  have h0 : Inv P I (ctxOf w fa (heads args us)) (fun _ => undef) ⟨List.replicate (us.toArray ++ Array.replicate (n - us.toArray.size) undef).size .un, [], []⟩ { tmps := us.toArray ++ Array.replicate (n - us.toArray.size) undef, defers := [] } (fun _ => []) w :=
    ⟨by simp, fun d v hd => by
      have := (List.mem_replicate.1 (List.mem_of_getElem? hd)).2
      subst this
      exact .leaf _ _ _ rfl (.un _), fun m b hm => by simp at hm, fun _ => List.nodup_nil, fun _ _ _ hb => by simp at hb, fun _ _ hb => by simp at hb, fun b hb => ⟨hI b hb, fun z => hfa b z hb⟩, fun b hb => hb.1, Kp.refl _ _, fun j m hj => by simp at hj, rfl, hg.1, fun b hb => ⟨hg.1.lt hb, hg.2 b hb⟩⟩
  obtain ⟨R', F', e1, e2, e3, e4⟩ := argsOpen_sound args us fa _ _ _ h0 hr hn (fun b hb => ⟨fun z => z.2 hb, fun m hm => by simp at hm⟩)
  simp only [List.length_nil, List.nil_append] at e1 e2 e3 e4
  have e1i := e1.inv
  simp only [List.nil_append] at e1i
  refine ⟨⟨R', F', ⟨?_, fun d v hd => ?_, e1i.blk, e1i.nodup, e1i.disj, e1i.fresh, e1i.iin, e1i.olt, e1i.below, fun j m hj => ?_, rfl, e1i.gl⟩⟩, by rw [e3, List.length_map]⟩
  · have := e2.len
    simp [this, hlen]
  · dsimp only at hd ⊢
    rcases Nat.lt_or_ge d (argsOpen 0 args).1.length with hlt | hge
    · rw [List.getElem?_append_left hlt] at hd
      have hul : d < us.length := by rw [← e2.len]; exact hlt
      have hu : us[d]? = some (us[d]'hul) := List.getElem?_eq_getElem hul
      have hg : (us.toArray ++ Array.replicate (n - us.toArray.size) undef).getD d undef = us[d]'hul := by
        rw [Array.getD_eq_getD_getElem?, Array.getElem?_append_left (by simpa using hul)]
        simp [hu]
      rw [hg]
      exact e2.bare d v _ hd hu
    · rw [List.getElem?_append_right hge] at hd
      have := (List.mem_replicate.1 (List.mem_of_getElem? hd)).2
      subst this
      exact .leaf _ _ _ rfl (.un _)
  · simp only [List.getElem?_map] at hj
    cases hls : (argsOpen 0 args).2.2[j]? with
    | none => simp [hls] at hj
    | some m' =>
      simp only [hls, Option.map_some, Option.some.injEq] at hj
      subst hj
      refine ⟨e4 _ (List.mem_of_getElem? hls), ?_⟩
      simp only [ctxOf]
      rw [e3, List.getD_eq_getElem?_getD, List.getElem?_map, hls]
      rfl
theorem outOne_sound (h : Inv P I C R S a F w) {n : Nat} {H' : List Blk} {ss : List (Option Nat)} (ht : outOne P S.H n = some (v', H', ss)) : ∃ f, Gone P I C R S a F w H' f ∧ Rel P I w R S.H.length false v' (R n) f := by
  unfold outOne at ht
  split at ht
  · rename_i e els fo hg
    have hn := (List.getElem?_eq_some_iff.1 hg).1
    obtain ⟨sz, uss, ffs, h1, h2, ⟨_, A, cap, hR, _⟩, _⟩ := h.blk n _ hg
    have : Rel P I w R S.H.length true (.ow n) (R n) [] := by rw [hR]; exact .ow n hn _ cap A hR
    obtain ⟨f, q1, q2, _⟩ := takeV_sound h this ht
    exact ⟨f, q1, q2⟩
  · rename_i e cs hg
    have hn := (List.getElem?_eq_some_iff.1 hg).1
    obtain ⟨g, us, hR, _⟩ := h.blk n _ hg
    have : Rel P I w R S.H.length true (.ptr n 0) (R n) [] := by rw [hR]; exact .ptr n 0 g hn hR
    obtain ⟨f, q1, q2, _⟩ := takeV_sound h this ht
    exact ⟨f, q1, q2⟩
  · simp at ht
theorem outsOf_sound : ∀ (gv : List (Option Nat)) (k : Nat) (hs : List Value) (S : St) (F : Nat → List Nat), Inv P I C R S a F w → k = hs.length → (∀ (j n : Nat) (u : Value), gv[j]? = some (some n) → hs[j]? = some u → R n = u) →
    ∃ gs, RelL P I w R S.H.length false (outsOf P S.H gv k) (hs.take (outsOf P S.H gv k).length) gs ∧ gs.Nodup ∧ ∀ b, b ∈ gs → ∃ n, b ∈ F n
  | [], k, hs, S, F, h, hk, ho => by
    unfold outsOf
    exact ⟨[], .nil, List.nodup_nil, fun b hb => by simp at hb⟩
  | some n :: gs, 0, hs, S, F, h, hk, ho => by
    unfold outsOf
    exact ⟨[], .nil, List.nodup_nil, fun b hb => by simp at hb⟩
  | none :: gs, 0, hs, S, F, h, hk, ho => by
    unfold outsOf
    exact ⟨[], .nil, List.nodup_nil, fun b hb => by simp at hb⟩
  | g :: gs, k + 1, [], S, F, h, hk, ho => by simp at hk
  | none :: gs, k + 1, u :: hs, S, F, h, hk, ho => by
    obtain ⟨f, q1, q2, q3⟩ := outsOf_sound gs k hs S F h (by simpa using hk) (fun j n u hj hu => ho (j + 1) n u (by simpa using hj) (by simpa using hu))
    have : outsOf P S.H (none :: gs) (k + 1) = .un :: outsOf P S.H gs k := rfl
    rw [this]
    exact ⟨f, by simpa using PwL.cons (Rel.leaf false .un u rfl (.un u)) q1, q2, q3⟩
  | some n :: gs, k + 1, u :: hs, S, F, h, hk, ho => by
    have hrec : ∀ (S' : St) (F' : Nat → List Nat), Inv P I C R S' a F' w → ∃ f, RelL P I w R S'.H.length false (outsOf P S'.H gs k) (hs.take (outsOf P S'.H gs k).length) f ∧ f.Nodup ∧ ∀ b, b ∈ f → ∃ n, b ∈ F' n := fun S' F' h' => outsOf_sound gs k hs S' F' h' (by simpa using hk) (fun j n u hj hu => ho (j + 1) n u (by simpa using hj) (by simpa using hu))
    cases hone : outOne P S.H n with
    | none =>
      obtain ⟨f, q1, q2, q3⟩ := hrec S F h
      have : outsOf P S.H (some n :: gs) (k + 1) = .un :: outsOf P S.H gs k := by
        conv => lhs; unfold outsOf
        rw [hone]
      rw [this]
      exact ⟨f, by simpa using PwL.cons (Rel.leaf false .un u rfl (.un u)) q1, q2, q3⟩
    | some r =>
      obtain ⟨v', H', ss⟩ := r
      obtain ⟨f, ⟨F1, hI1, hN1, hn1, hm1, hf1⟩, hr⟩ := outOne_sound h hone
      have hRn : R n = u := ho 0 n u rfl rfl
      rw [hRn] at hr
      obtain ⟨f2, q1, q2, q3⟩ := hrec { S with H := H' } F1 hI1
      dsimp only at q1
      rw [hN1] at q1
      have : outsOf P S.H (some n :: gs) (k + 1) = v' :: outsOf P H' gs k := by
        conv => lhs; unfold outsOf
        rw [hone]
      rw [this]
      refine ⟨f ++ f2, by simpa using PwL.cons hr q1, List.nodup_append.2 ⟨hn1, q2, fun b hb b' hb' e => ?_⟩, fun b hb => ?_⟩
      · subst e
        obtain ⟨m, hm⟩ := q3 b hb'
        exact (hf1 b hb).2 m hm
      · rcases List.mem_append.1 hb with hb | hb
        · exact (hf1 b hb).1
        · obtain ⟨m, hm⟩ := q3 b hb
          exact ⟨m, hm1 m b hm⟩
end
/-- What a run of function f has to show; what it hands back. -/
def vfn (P : Program) (f : Nat) (args : List (Bool × V)) (its : List It) : Option (List Prop × V × List V) :=
  match enters P f, P.funcs[f]? with
  | true, some fn => match fn.body with
    | some code => match argsOpen 0 args with
      | (vs, bs, ls) => match vadj P its ⟨vs ++ List.replicate (fn.ntmps - args.length) .un, bs, ls.map some⟩ with
        | (S0, its0, p0) => match vexec P code S0 its0 with
          | some (x, S1, its1, p1) => match vadj P its1 S1 with
            | (S2, [], p2) => match x.ends, vres P fn S2 with
              | true, some (r, H1) => some (p0 ++ (p1 ++ p2), r, outsOf P H1 S2.gv ls.length)
              | _, _ => none
            | _ => none
          | none => none
    | none => none
  | _, _ => none
section
variable {P : Program}
theorem Fn.of {f : Nat} {args : List (Bool × V)} {res : V} {outs : List V} (its : List It) {p : List Prop} (h : vfn P f args its = some (p, res, outs)) (hp : conj p) : Fn P f args res outs := by
  unfold vfn at h
  split at h
  · rename_i fn hent hf
    split at h
    · rename_i code hb
      split at h
      rename_i vs bs ls hargs
      split at h
      rename_i S0 its0 p0 ha0
      split at h
      · rename_i x S1 its1 p1 he
        split at h
        · rename_i S2 p2 ha2
          split at h
          · rename_i r H1 hx hr
            simp only [Option.some.injEq, Prod.mk.injEq] at h
            obtain ⟨rfl, rfl, rfl⟩ := h
            obtain ⟨hp0, hp1⟩ := conj_append hp
            obtain ⟨hp1, hp2⟩ := conj_append hp1
            refine ⟨hent, fun I w us fa hI hn hfa hA hg => ?_⟩
            refine calls_of_wp hf hb ?_
            obtain ⟨hI0, hlen⟩ := args_inv fn.ntmps hI hn hfa hA hg
            rw [hargs] at hI0 hlen
            have hI1 := vadj_sound _ _ ha0 hp0 hI0
            refine vexec_sound code S0 S1 its0 its1 x p1 he hp1 I _ _ w hI1 _ (fun a' w' hI2 => ?_)
            have hI3 := vadj_sound _ _ ha2 hp2 hI2
            obtain ⟨R, F, hI3⟩ := hI3
            obtain ⟨u, fp, hrun, hrel, F1, hI4, hN4, hn1, hm, hgone⟩ := vres_sound hI3 hr
            obtain ⟨gs, g1, g2, g3⟩ := outsOf_sound S2.gv ls.length (heads args us) { S2 with H := H1 } F1 hI4 hlen (fun j n u hj hu => by
              have := (hI3.orig j n hj).2
              rw [this]
              simp only [ctxOf]
              rw [List.getD_eq_getElem?_getD, hu]
              rfl)
            have key : Rel P I w' (fun _ => undef) 0 false r u fp ∧ RelL P I w' (fun _ => undef) 0 false (outsOf P H1 S2.gv ls.length) ((heads args us).take (outsOf P H1 S2.gv ls.length).length) gs ∧ (fp ++ gs).Nodup ∧ (∀ b, b ∈ fp ++ gs → b ∈ fa ∨ w.heap.size ≤ b) ∧ Kp (fun b => b < w.heap.size ∧ b ∉ fa) w w' := by
              refine ⟨hrel.shut, RelL.shut g1, ?_, fun b hb => ?_, hI3.below⟩
              · rw [List.nodup_append]
                refine ⟨hn1, g2, fun b hb b' hb' e => ?_⟩
                subst e
                obtain ⟨m, hm⟩ := g3 b hb'
                exact (hgone b hb).2 m hm
              · have hno : ¬ (b < w.heap.size ∧ b ∉ fa) := by
                  rcases List.mem_append.1 hb with hb | hb
                  · obtain ⟨m, hm⟩ := (hgone b hb).1
                    exact (hI3.fresh m b hm).1
                  · obtain ⟨m, hm⟩ := g3 b hb
                    exact (hI4.fresh m b hm).1
                by_cases h1 : b ∈ fa
                · exact .inl h1
                · exact .inr (by
                    rcases Nat.lt_or_ge b w.heap.size with h2 | h2
                    · exact absurd ⟨h2, h1⟩ hno
                    · exact h2)
            cases x with
            | go => exact ⟨hI3.defers, u, hrun, u, fp, gs, rfl, key⟩
            | ret => exact ⟨hI3.defers, u, hrun, u, fp, gs, rfl, key⟩
            | out id => simp [X.ends] at hx
          · simp at h
        · simp at h
      · simp at h
    · simp at h
  · simp at h
def codeOf (P : Program) (f : Nat) : Code := match P.funcs[f]? with
  | some fn => match fn.body with
    | some c => c
    | none => .skip
  | none => .skip
/-- A part of a text. -/
def sub : Code → List Nat → Code
  | c, [] => c
  | .seq a _, 0 :: p => sub a p
  | .seq _ b, 1 :: p => sub b p
  | .cond _ a _, 0 :: p => sub a p
  | .cond _ _ b, 1 :: p => sub b p
  | .block _ c, 0 :: p => sub c p
  | .loop c, 0 :: p => sub c p
  | c, _ => c
/-- What a run of some code has to show, and what it leaves. -/
def vht (P : Program) (c : Code) (S : St) (its : List It) : Option (X × St × List Prop) :=
  match vadj P its S with
  | (S0, its0, p0) => match vexec P c S0 its0 with
    | some (x, S1, its1, p1) => match vadj P its1 S1 with
      | (S2, [], p2) => some (x, S2, p0 ++ (p1 ++ p2))
      | _ => none
    | none => none
theorem HT.of {c : Code} {x : X} {S S' : St} (its : List It) {p : List Prop} (h : vht P c S its = some (x, S', p)) (hp : conj p) : HT P c S x S' := by
  unfold vht at h
  split at h
  rename_i S0 its0 p0 ha0
  split at h
  · rename_i x' S1 its1 p1 he
    split at h
    · rename_i S2 p2 ha2
      simp only [Option.some.injEq, Prod.mk.injEq] at h
      obtain ⟨rfl, rfl, rfl⟩ := h
      obtain ⟨hp0, hp1⟩ := conj_append hp
      obtain ⟨hp1, hp2⟩ := conj_append hp1
      exact fun I C a w hI Q hQ => vexec_sound c S0 S1 its0 its1 _ _ he hp1 I C a w (vadj_sound _ _ ha0 hp0 hI) Q (fun a' w' hI' => hQ a' w' (vadj_sound _ _ ha2 hp2 hI'))
    · simp at h
  · simp at h
theorem Loop.go {c : Code} {x : X} {S S2 S' : St} (its : List It) {p : List Prop} (h : vht P c S its = some (.go, S2, p)) (hp : conj p) (h2 : Loop P c S2 x S') : Loop P c S x S' :=
  .step (HT.of its h hp) h2
theorem Loop.out {c : Code} {x : X} {S S' : St} (its : List It) {p : List Prop} (h : vht P c S its = some (x, S', p)) (hx : x ≠ .go) (hp : conj p) : Loop P c S x S' :=
  .done (HT.of its h hp) hx
/-- A state: slots that are known, blocks, what was given. -/
def st (n : Nat) (l : List (Nat × V)) (H : List Blk) (gv : List (Option Nat)) : St := ⟨l.foldl (fun G p => G.set p.1 p.2) (List.replicate n .un), H, gv⟩
end
end Go.Proofs.YtdahdpnkppknfaaGreatDoorM
