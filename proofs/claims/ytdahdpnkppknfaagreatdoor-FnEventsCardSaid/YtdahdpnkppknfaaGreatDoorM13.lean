/- Calls. No condition. -/
import Derived.Test.YtdahdpnkppknfaaGreatDoorM12
namespace Go.Proofs.YtdahdpnkppknfaaGreatDoorM
set_option linter.unusedVariables false
set_option linter.unusedSimpArgs false
open Go.RowKit

/-- A cell that is given. -/
def takeC (P : Program) (H : List Blk) : V → Option (V × List Blk × List (Option Nat))
  | .ow n => match H[n]? with
    | some (.row e els []) => some (.sl true e els, H.set n .dead, [some n])
    | _ => none
  | .sb n sz lo len => match H[n]? with
    | some (.row e els []) => match szOf P e with
      | some sz' => match Nat.beq sz' sz with
        | true => some (.sl true e (cutV els lo len), H.set n .dead, [none])
        | false => none
      | none => none
    | _ => none
  | .nl e => match szOf P e with
    | some (_ + 1) => some (.sl true e [], H, [none])
    | _ => none
  | .sc v => some (.sc v, H, [])
  | .sl false e els => some (.sl false e els, H, [])
  | .cp cs => some (.cp cs, H, [])
  | .un => some (.un, H, [])
  | _ => none
def takeL (P : Program) (H : List Blk) : List V → Option (List V × List Blk × List (Option Nat))
  | [] => some ([], H, [])
  | c :: cs => match takeC P H c with
    | some (c', H1, s1) => match takeL P H1 cs with
      | some (cs', H2, s2) => some (c' :: cs', H2, s1 ++ s2)
      | none => none
    | none => none
def takeV (P : Program) (H : List Blk) (v : V) : Option (V × List Blk × List (Option Nat)) :=
  match v with
  | .agg cs => match takeL P H cs with
    | some (cs', H', s) => some (.agg cs', H', s)
    | none => none
  | .ptr n 0 => match homeBox H n with
    | some (e, cs) => match takeL P (H.set n .dead) cs with
      | some (cs', H', _) => some (.bx e cs', H', [some n])
      | none => none
    | none => none
  | v => takeC P H v
def takeArgs (P : Program) (H : List Blk) : List (Bool × V) → Option (List (Bool × V) × List Blk × List (Option Nat))
  | [] => some ([], H, [])
  | (true, v) :: as => match takeV P H v with
    | some (v', H1, s1) => match takeArgs P H1 as with
      | some (as', H2, s2) => some ((true, v') :: as', H2, s1 ++ s2)
      | none => none
    | none => none
  | (false, v) :: as => match takeArgs P H as with
    | some (as', H2, s2) => some ((false, v) :: as', H2, s2)
    | none => none
def modes : List Bool → List V → List (Bool × V)
  | _, [] => []
  | [], x :: xs => (false, x) :: modes [] xs
  | m :: ms, x :: xs => (m, x) :: modes ms xs
def tellAll (P : Program) (H : List Blk) : List (Bool × V) → List (Bool × V)
  | [] => []
  | (true, v) :: as => (true, v) :: tellAll P H as
  | (false, v) :: as => (false, lend P H v) :: tellAll P H as
def keepAll : List (Bool × V) → Bool
  | [] => true
  | (true, _) :: as => keepAll as
  | (false, v) :: as => v.keep && keepAll as
/-- What the call was given lies there anew. -/
def giveBack (H : List Blk) : List (Option Nat) → List V → List Blk
  | some n :: ss, o :: os => match o with
    | .sl true e els => giveBack (H.set n (.row e els [])) ss os
    | .bx e cs => match openL H.length cs with
      | (cs', bs) => giveBack ((H ++ bs).set n (.box e cs')) ss os
    | _ => giveBack H ss os
  | none :: ss, _ :: os => giveBack H ss os
  | _, _ => H
/-- The call that stands there: what is called, what it is told, whether what comes back may be read on, what is left. -/
def vcallee (P : Program) (o : Oper) (S : St) (ms : List Bool) : Option (Nat × List (Bool × V) × Bool × List Blk × List (Option Nat)) :=
  match o.op with
  | .call c => match c.callee with
    | .value f => match ev S.G f with
      | .fn g caps => match Nat.beq c.args.toList.length c.argTypes.toList.length with
        | true => match takeArgs P S.H (modes ms (((c.args.toList.zip c.argTypes.toList).map fun p => nrm P p.2 (ev S.G p.1)) ++ caps)) with
          | some (as, H', ss) => some (g, tellAll P H' as, keepAll as, H', ss)
          | none => none
        | false => none
      | _ => none
    | _ => none
  | _ => none
def putCall (S : St) (dst : Option Nat) (H2 : List Blk) (res : V) : St :=
  match openV H2.length res with
  | (v, bs) => ⟨putV S.G dst v, H2 ++ bs, S.gv⟩
section
variable {P : Program} {R R' : Nat → Value} {N N' : Nat} {I I' : Nat → Prop} {w w' : World} {C : Ctx} {S S' : St} {a : Act} {F F' : Nat → List Nat} {t : Bool} {v v' : V} {u : Value} {f : List Nat} {sz : Nat}
/-- Which of the frame's own the heads are. -/
def SrcR (R : Nat → Value) (N : Nat) (ss : List (Option Nat)) (hs : List Value) : Prop :=
  ss.length = hs.length ∧ ∀ (j n : Nat) (u : Value), ss[j]? = some (some n) → hs[j]? = some u → n < N ∧ R n = u
theorem SrcR.nil : SrcR R N [] [] := ⟨rfl, fun j n u h => by simp at h⟩
theorem SrcR.append {s1 s2 : List (Option Nat)} {h1 h2 : List Value} (a : SrcR R N s1 h1) (b : SrcR R N s2 h2) : SrcR R N (s1 ++ s2) (h1 ++ h2) := by
  obtain ⟨a1, a2⟩ := a
  obtain ⟨b1, b2⟩ := b
  refine ⟨by simp [a1, b1], fun j n u hj hu => ?_⟩
  rw [getElem?_app] at hj hu
  by_cases h : j < s1.length
  · rw [if_pos (by omega)] at hj hu; exact a2 j n u hj hu
  · rw [if_neg (by omega)] at hj hu; rw [← a1] at hu; exact b2 _ n u hj hu
theorem Gone.then {H1 H2 : List Blk} {f g : List Nat} {F1 : Nat → List Nat} (hN : H1.length = S.H.length) (hn : f.Nodup) (hm : ∀ n b, b ∈ F1 n → b ∈ F n) (hf : ∀ b, b ∈ f → (∃ n, b ∈ F n) ∧ ∀ n, b ∉ F1 n)
    (h2 : Gone P I C R { S with H := H1 } a F1 w H2 g) : Gone P I C R S a F w H2 (f ++ g) := by
  obtain ⟨F2, hI2, hN2, hn2, hm2, hf2⟩ := h2
  refine ⟨F2, hI2, hN2.trans hN, List.nodup_append.2 ⟨hn, hn2, fun b hb c hc e => ?_⟩, fun n b hb => hm n b (hm2 n b hb), fun b hb => ?_⟩
  · subst e
    obtain ⟨n, hx⟩ := (hf2 b hc).1
    exact (hf b hb).2 n hx
  · rcases List.mem_append.1 hb with hb | hb
    · exact ⟨(hf b hb).1, fun n hk => (hf b hb).2 n (hm2 n b hk)⟩
    · obtain ⟨n, hx⟩ := (hf2 b hb).1
      exact ⟨⟨n, hm n b hx⟩, (hf2 b hb).2⟩
theorem takeC_sound (h : Inv P I C R S a F w) {c c' : V} {H' : List Blk} {ss : List (Option Nat)} (hc : Rel P I w R S.H.length true c u []) (ht : takeC P S.H c = some (c', H', ss)) : ∃ f, Gone P I C R S a F w H' f ∧ Rel P I w R S.H.length false c' u f ∧ SrcR R S.H.length ss (hd c' u) := by
  unfold takeC at ht
  split at ht
  · rename_i n
    split at ht
    · rename_i e els hg
      simp only [Option.some.injEq, Prod.mk.injEq] at ht
      obtain ⟨rfl, rfl, rfl⟩ := ht
      have hu : u = R n := by
        cases hc with
        | leaf _ _ _ hb => simp [V.leafB] at hb
        | ow _ _ L c A hR' => exact hR'.symm
      subst hu
      refine ⟨_, .kill h n, (h.blk n _ hg).row_rel false, rfl, fun j m u hj hu => ?_⟩
      cases j with
      | zero =>
        simp [hd] at hj hu
        subst hj hu
        exact ⟨(List.getElem?_eq_some_iff.1 hg).1, rfl⟩
      | succ j => simp at hj
    · simp at ht
  · rename_i n sz lo len
    split at ht
    · rename_i e els hg
      split at ht
      · rename_i sz' hs
        split at ht
        · rename_i hb
          obtain rfl : sz' = sz := by simpa using hb
          rw [cutV_eq] at ht
          simp only [Option.some.injEq, Prod.mk.injEq] at ht
          obtain ⟨rfl, rfl, rfl⟩ := ht
          obtain ⟨uss, ffs, hz, hown, hcut, hgone⟩ := own_cut h hg hs hc
          refine ⟨_, hgone, Rel.row_mk (R' := R) (N' := S.H.length) false hs hz hown hcut.1 hcut.2.1 hcut.2.2, rfl, fun j m u hj => ?_⟩
          cases j <;> simp at hj
        · simp at ht
      · simp at ht
    · simp at ht
  · rename_i e
    split at ht
    · rename_i k hs
      simp only [Option.some.injEq, Prod.mk.injEq] at ht
      obtain ⟨rfl, rfl, rfl⟩ := ht
      cases (hc.vw_leaf rfl).1 with
      | nl _ A =>
        refine ⟨[], .none h, ?_, rfl, fun j m u hj => ?_⟩
        · have := Rel.row_mk (P := P) (I := I) (w := w) (R := R) (N := S.H.length) (R' := R) (N' := S.H.length) (u := .slice A 0 0) (e := e) (els := []) (uss := []) (ffs := []) false hs (by omega) ⟨by simp, A, 0, rfl, Nat.le_refl _, .inl rfl⟩ rfl rfl (fun i x us f hx => by simp at hx)
          have hfb : fbOf (.slice A 0 0) = [] := by cases A <;> rfl
          simpa [hfb] using this
        · cases j <;> simp at hj
    · simp at ht
  all_goals
    simp only [Option.some.injEq, Prod.mk.injEq, reduceCtorEq] at ht
    try
      obtain ⟨rfl, rfl, rfl⟩ := ht
      exact ⟨[], .none h, .leaf _ _ _ rfl (hc.vw_leaf rfl).1, .nil⟩
theorem takeL_sound : ∀ (cs cs' : List V) (us : List Value) (S : St) (F : Nat → List Nat) (H' : List Blk) (ss : List (Option Nat)), Inv P I C R S a F w → RelL P I w R S.H.length true cs us [] → takeL P S.H cs = some (cs', H', ss) → ∃ f, Gone P I C R S a F w H' f ∧ RelL P I w R S.H.length false cs' us f ∧ SrcR R S.H.length ss (hdL cs' us)
  | [], cs', us, S, F, H', ss, h, hr, ht => by
    simp only [takeL, Option.some.injEq, Prod.mk.injEq] at ht
    obtain ⟨rfl, rfl, rfl⟩ := ht
    obtain ⟨rfl, _⟩ := hr.nil_inv
    exact ⟨[], .none h, .nil, .nil⟩
  | c :: cs, cs', us, S, F, H', ss, h, hr, ht => by
    obtain ⟨u, us', g, g', rfl, hg, hc, hcs⟩ := hr.uncons
    obtain ⟨rfl, rfl⟩ : g = [] ∧ g' = [] := by simpa using hg.symm
    unfold takeL at ht
    split at ht
    · rename_i c' H1 s1 h1
      split at ht
      · rename_i cs1 H2 s2 h2
        simp only [Option.some.injEq, Prod.mk.injEq] at ht
        obtain ⟨rfl, rfl, rfl⟩ := ht
        obtain ⟨f, ⟨F1, hI1, hN1, hn, hm, hf⟩, hc', hs1⟩ := takeC_sound h hc h1
        obtain ⟨f2, hg2, hcs', hs2⟩ := takeL_sound cs cs1 us' { S with H := H1 } F1 H2 s2 hI1 (by dsimp only; rw [hN1]; exact hcs) h2
        dsimp only at hcs' hs2
        rw [hN1] at hcs' hs2
        exact ⟨f ++ f2, .then hN1 hn hm hf hg2, .cons hc' hcs', by simpa [hdL] using hs1.append hs2⟩
      · simp at ht
    · simp at ht
theorem takeV_sound (h : Inv P I C R S a F w) {H' : List Blk} {ss : List (Option Nat)} (hv : Rel P I w R S.H.length true v u []) (ht : takeV P S.H v = some (v', H', ss)) : ∃ f, Gone P I C R S a F w H' f ∧ Rel P I w R S.H.length false v' u f ∧ SrcR R S.H.length ss (hd v' u) := by
  unfold takeV at ht
  split at ht
  · rename_i cs
    split at ht
    · rename_i cs' H1 s h1
      simp only [Option.some.injEq, Prod.mk.injEq] at ht
      obtain ⟨rfl, rfl, rfl⟩ := ht
      obtain ⟨us, rfl, hr, h1'⟩ := hv.agg_inv
      obtain ⟨f, hg, hrel, hs⟩ := takeL_sound _ _ us _ _ _ _ h hr h1
      exact ⟨f, hg, Rel.agg_mk hrel h1', by simpa [hd] using hs⟩
    · simp at ht
  · rename_i n
    split at ht
    · rename_i e cs hb
      split at ht
      · rename_i cs' H1 s h1
        simp only [Option.some.injEq, Prod.mk.injEq] at ht
        obtain ⟨rfl, rfl, rfl⟩ := ht
        obtain ⟨g, us, hg, hnl, hR, hus, hr, hone, hFn⟩ := h.box hb
        obtain ⟨g', _, hR', rfl, _⟩ := hv.ptr_inv
        obtain rfl : g' = g := by rw [hR] at hR'; simpa using hR'.symm
        obtain ⟨F1, k1, k2, k3, k4, k5⟩ := Gone.kill h n
        obtain ⟨f, hg2, hrel, _⟩ := takeL_sound cs cs' us.toList { S with H := S.H.set n .dead } F1 _ s k1 (by simpa using hr) h1
        refine ⟨[g'] ++ f, ?_, Rel.bx_mk hus (by simpa using hrel) hone, rfl, fun j m u hj hu => ?_⟩
        · rw [hFn] at k3 k5
          exact .then k2 k3 k4 k5 hg2
        · cases j with
          | zero =>
            simp [hd] at hj hu
            subst hj hu
            exact ⟨hnl, hR⟩
          | succ j => simp at hj
      · simp at ht
    · simp at ht
  · exact takeC_sound h hv ht
/-- Arguments, some taken out, some as they are. -/
def RelM (P : Program) (I : Nat → Prop) (w : World) (R : Nat → Value) (N : Nat) : List (Bool × V) → List Value → List Nat → Prop
  | [], [], f => f = []
  | (true, v) :: as, u :: us, f => ∃ g g', f = g ++ g' ∧ Rel P I w R N false v u g ∧ RelM P I w R N as us g'
  | (false, v) :: as, u :: us, f => Rel P I w R N true v u [] ∧ RelM P I w R N as us f
  | _, _, _ => False
theorem takeArgs_sound : ∀ (as as' : List (Bool × V)) (us : List Value) (S : St) (F : Nat → List Nat) (H' : List Blk) (ss : List (Option Nat)), Inv P I C R S a F w → RelL P I w R S.H.length true (as.map (·.2)) us [] → takeArgs P S.H as = some (as', H', ss) →
    ∃ f, Gone P I C R S a F w H' f ∧ RelM P I w R S.H.length as' us f ∧ SrcR R S.H.length ss (heads as' us)
  | [], as', us, S, F, H', ss, h, hr, ht => by
    simp only [takeArgs, Option.some.injEq, Prod.mk.injEq] at ht
    obtain ⟨rfl, rfl, rfl⟩ := ht
    obtain ⟨rfl, _⟩ := PwL.nil_inv hr
    exact ⟨[], .none h, rfl, .nil⟩
  | (true, v) :: as, as', us, S, F, H', ss, h, hr, ht => by
    obtain ⟨u, us', g, g', rfl, hg, hc, hcs⟩ := PwL.uncons hr
    obtain ⟨rfl, rfl⟩ : g = [] ∧ g' = [] := by simpa using hg.symm
    unfold takeArgs at ht
    split at ht
    · rename_i v' H1 s1 h1
      split at ht
      · rename_i as1 H2 s2 h2
        simp only [Option.some.injEq, Prod.mk.injEq] at ht
        obtain ⟨rfl, rfl, rfl⟩ := ht
        obtain ⟨f, ⟨F1, hI1, hN1, hn, hm, hf⟩, hc', hs1⟩ := takeV_sound h hc h1
        obtain ⟨f2, hg2, hcs', hs2⟩ := takeArgs_sound as as1 us' { S with H := H1 } F1 H2 s2 hI1 (by dsimp only; rw [hN1]; exact hcs) h2
        dsimp only at hcs' hs2
        rw [hN1] at hcs' hs2
        exact ⟨f ++ f2, .then hN1 hn hm hf hg2, ⟨f, f2, rfl, hc', hcs'⟩, by simpa [heads] using hs1.append hs2⟩
      · simp at ht
    · simp at ht
  | (false, v) :: as, as', us, S, F, H', ss, h, hr, ht => by
    obtain ⟨u, us', g, g', rfl, hg, hc, hcs⟩ := PwL.uncons hr
    obtain ⟨rfl, rfl⟩ : g = [] ∧ g' = [] := by simpa using hg.symm
    unfold takeArgs at ht
    split at ht
    · rename_i as1 H2 s2 h2
      simp only [Option.some.injEq, Prod.mk.injEq] at ht
      obtain ⟨rfl, rfl, rfl⟩ := ht
      obtain ⟨f, hg2, hcs', hs2⟩ := takeArgs_sound as as1 us' S F H2 s2 h hcs h2
      exact ⟨f, hg2, ⟨hc, hcs'⟩, by simpa [heads] using hs2⟩
    · simp at ht
theorem heads_tell (H : List Blk) : ∀ (as : List (Bool × V)) (us : List Value), heads (tellAll P H as) us = heads as us
  | [], us => by cases us <;> rfl
  | (true, v) :: as, [] => by simp [tellAll, heads]
  | (true, v) :: as, u :: us => by simp [tellAll, heads, heads_tell H as us]
  | (false, v) :: as, [] => by simp [tellAll, heads]
  | (false, v) :: as, u :: us => by simp [tellAll, heads, heads_tell H as us]
theorem tell_keep (H : List Blk) : ∀ (as : List (Bool × V)) (us : List Value) (f : List Nat), RelM P I w R N as us f → keepAll as = true → ArgsR P I w (tellAll P H as) us f
  | [], [], f, h, _ => h
  | (true, v) :: as, u :: us, f, ⟨g, g', e, h1, h2⟩, hk => ⟨g, g', e, h1.shut, tell_keep H as us g' h2 (by simpa [keepAll] using hk)⟩
  | (false, v) :: as, u :: us, f, ⟨h1, h2⟩, hk => by
    simp only [keepAll, Bool.and_eq_true] at hk
    exact ⟨keep_sound h1 H hk.1, tell_keep H as us f h2 hk.2⟩
theorem tell_lend (h : Inv P I C R S a F w) (hII : ∀ b, I b → I' b) (hF : ∀ n b, b ∈ F n → I' b) : ∀ (as : List (Bool × V)) (us : List Value) (f : List Nat), RelM P I w R S.H.length as us f → ArgsR P I' w (tellAll P S.H as) us f
  | [], [], f, h => h
  | (true, v) :: as, u :: us, f, ⟨g, g', e, h1, h2⟩ => ⟨g, g', e, (h1.more hII).shut, tell_lend h hII hF as us g' h2⟩
  | (false, v) :: as, u :: us, f, ⟨h1, h2⟩ => ⟨lend_sound h hII hF h1 rfl, tell_lend h hII hF as us f h2⟩
theorem giveBack_sound : ∀ (ss : List (Option Nat)) (os : List V) (hs : List Value) (gs : List Nat) (R : Nat → Value) (S : St) (F : Nat → List Nat) (N : Nat), Inv P I C R S a F w → N ≤ S.H.length → SrcR R N ss hs → RelL P I w (fun _ => undef) 0 false os (hs.take os.length) gs → gs.Nodup → (∀ b, b ∈ gs → ¬ C.O b ∧ ∀ m, b ∉ F m) →
    ∃ R' F', Inv P I C R' { S with H := giveBack S.H ss os } a F' w ∧ S.H.length ≤ (giveBack S.H ss os).length ∧ (∀ n, n < S.H.length → R' n = R n) ∧ ∀ n b, b ∈ F' n → b ∈ F n ∨ b ∈ gs
  | [], os, hs, gs, R, S, F, N, h, hN, hsr, hr, hn, hf => ⟨R, F, by unfold giveBack; exact h, by unfold giveBack; exact Nat.le_refl _, fun _ _ => rfl, fun n b hb => .inl hb⟩
  | some n :: ss, [], hs, gs, R, S, F, N, h, hN, hsr, hr, hn, hf => ⟨R, F, by unfold giveBack; exact h, by unfold giveBack; exact Nat.le_refl _, fun _ _ => rfl, fun n b hb => .inl hb⟩
  | none :: ss, [], hs, gs, R, S, F, N, h, hN, hsr, hr, hn, hf => ⟨R, F, by unfold giveBack; exact h, by unfold giveBack; exact Nat.le_refl _, fun _ _ => rfl, fun n b hb => .inl hb⟩
  | s :: ss, o :: os, [], gs, R, S, F, N, h, hN, hsr, hr, hn, hf => by
    have := hsr.1
    simp at this
  | s :: ss, o :: os, u :: hs, gs, R, S, F, N, h, hN, hsr, hr, hn, hf => by
    have hr' : RelL P I w (fun _ => undef) 0 false (o :: os) (u :: hs.take os.length) gs := by simpa using hr
    obtain ⟨u', us', g, g', he, rfl, h1, h2⟩ := PwL.uncons hr'
    simp only [List.cons.injEq] at he
    obtain ⟨rfl, rfl⟩ := he
    obtain ⟨n1, n2, n3⟩ := List.nodup_append.1 hn
    have hsr2 : SrcR R N ss hs := ⟨by have := hsr.1; simpa using this, fun j n u hj hu => hsr.2 (j + 1) n u (by simpa using hj) (by simpa using hu)⟩
    have hskip : ∃ R' F', Inv P I C R' { S with H := giveBack S.H ss os } a F' w ∧ S.H.length ≤ (giveBack S.H ss os).length ∧ (∀ n, n < S.H.length → R' n = R n) ∧ ∀ n b, b ∈ F' n → b ∈ F n ∨ b ∈ g ++ g' := by
      obtain ⟨R', F', q1, q2, q3, q4⟩ := giveBack_sound ss os hs g' R S F N h hN hsr2 h2 n2 (fun b hb => hf b (List.mem_append_right _ hb))
      exact ⟨R', F', q1, q2, q3, fun n b hb => (q4 n b hb).imp id (List.mem_append_right _)⟩
    cases s with
    | none => simpa [giveBack] using hskip
    | some n =>
      obtain ⟨hnN, hRn⟩ := hsr.2 0 n u rfl rfl
      unfold giveBack
      split
      · rename_i e els
        have hrow := h1.row_blk (R' := R) (n := n) hRn
        have hb' : BlkOk P I w R S.H.length n (.row e els []) g := (h1.weak (R' := R) (N' := S.H.length) true).row_blk hRn
        have ht := h.turn n (Kp.refl _ _) (fun _ _ _ _ => rfl) hb' n1 (fun b hb => ⟨(hf b (List.mem_append_left _ hb)).1, fun m _ => (hf b (List.mem_append_left _ hb)).2 m⟩)
        obtain ⟨R', F', q1, q2, q3, q4⟩ := giveBack_sound ss os hs g' R { S with H := S.H.set n (.row e els []) } _ N ht (by simpa using hN) hsr2 h2 n2 (fun b hb => ⟨(hf b (List.mem_append_right _ hb)).1, fun m hm => by
          unfold upd at hm
          split at hm
          · exact n3 b hm b hb rfl
          · exact (hf b (List.mem_append_right _ hb)).2 m hm⟩)
        refine ⟨R', F', q1, by simpa using q2, by simpa using q3, fun m b hb => ?_⟩
        rcases q4 m b hb with hb | hb
        · unfold upd at hb
          split at hb
          · exact .inr (List.mem_append_left _ hb)
          · exact .inl hb
        · exact .inr (List.mem_append_right _ hb)
      · rename_i e cs
        obtain ⟨gg, us2, k, rfl, hus, rfl, h3, h4⟩ := h1.bx_inv (R' := fun _ => undef) (N' := 0)
        obtain ⟨hgk, hkn⟩ := List.nodup_cons.1 n1
        obtain ⟨R1, F1, e1, e2, _, _⟩ := openL_sound cs us2.toList k R S F h h3 hkn (fun b hb => hf b (List.mem_append_left _ (List.mem_cons_of_mem _ hb)))
        generalize hop : openL S.H.length cs = op at *
        obtain ⟨cs', bs⟩ := op
        dsimp only at e1 e2 ⊢
        have hgf : ∀ m, gg ∉ F1 m := fun m hm => by
          rcases e1.old m gg hm with hm | hm
          · exact (hf gg (by simp)).2 m hm
          · exact hgk hm
        have ht := e1.inv.turn n (b' := .box e cs') (f' := [gg]) (Kp.refl _ _) (fun _ _ _ _ => rfl) ⟨gg, us2, by rw [e1.env n (by omega)]; exact hRn, hus, e2, h4, rfl⟩ (by simp) (fun b hb => by
          simp at hb; subst hb
          exact ⟨(hf b (by simp)).1, fun m _ => hgf m⟩)
        have hsr3 : SrcR R1 N ss hs := ⟨hsr2.1, fun j m u hj hu => by
          obtain ⟨z1, z2⟩ := hsr2.2 j m u hj hu
          exact ⟨z1, by rw [e1.env m (by omega)]; exact z2⟩⟩
        obtain ⟨R', F', q1, q2, q3, q4⟩ := giveBack_sound ss os hs g' R1 { S with H := (S.H ++ bs).set n (.box e cs') } _ N ht (by simp; omega) hsr3 h2 n2 (fun b hb => ⟨(hf b (List.mem_append_right _ hb)).1, fun m hm => by
          unfold upd at hm
          split at hm
          · simp at hm; subst hm; exact n3 b (by simp) b hb rfl
          · rcases e1.old m b hm with hm | hm
            · exact (hf b (List.mem_append_right _ hb)).2 m hm
            · exact n3 b (List.mem_cons_of_mem _ hm) b hb rfl⟩)
        refine ⟨R', F', q1, by simp at q2 ⊢; omega, fun m hm => (q3 m (by simp; omega)).trans (e1.env m hm), fun m b hb => ?_⟩
        rcases q4 m b hb with hb | hb
        · unfold upd at hb
          split at hb
          · simp at hb; subst hb; exact .inr (by simp)
          · exact (e1.old m b hb).imp id (fun hb => List.mem_append_left _ (List.mem_cons_of_mem _ hb))
        · exact .inr (List.mem_append_right _ hb)
      · exact hskip
theorem modes_map : ∀ (ms : List Bool) (xs : List V), (modes ms xs).map (·.2) = xs
  | _, [] => by simp [modes]
  | [], x :: xs => by simp [modes, modes_map [] xs]
  | m :: ms, x :: xs => by simp [modes, modes_map ms xs]
theorem RelL.map_args (h : Inv P I C R S a F w) : ∀ xs : List (Operand × TypeId), RelL P I w R S.H.length true (xs.map fun p => nrm P p.2 (ev S.G p.1)) (xs.map fun p => a.eval p.1) []
  | [] => .nil
  | x :: xs => by simpa using PwL.cons ((h.ev x.1).nrm x.2) (RelL.map_args h xs)
theorem call_sound {o : Oper} {ms : List Bool} {g : Nat} {args : List (Bool × V)} {kp : Bool} {H' : List Blk} {ss : List (Option Nat)} {res : V} {outs : List V} (hc : vcallee P o S ms = some (g, args, kp, H', ss)) (hf : Fn P g args res outs) (hk : (kp || (res.nv && nvL outs)) = true)
    (hI : InvE P I C S a w) {K : Act → World → Prop} {Q : Exit → Act → World → Prop} (hK : ∀ a' w', InvE P I C (putCall S o.dst (giveBack H' ss outs) res) a' w' → (ms.all (· == false) = true → Grow w w') → K a' w') : o.wp P a w K Q := by
  obtain ⟨R, F, h⟩ := hI
  unfold vcallee at hc
  split at hc
  · rename_i c hop
    split at hc
    · rename_i fo hcal
      split at hc
      · rename_i g' caps hev
        split at hc
        · rename_i hlen
          split at hc
          · rename_i as H1 ss1 hta
            simp only [Option.some.injEq, Prod.mk.injEq] at hc
            obtain ⟨rfl, rfl, rfl, rfl, rfl⟩ := hc
            have hlen : c.args.toList.length = c.argTypes.toList.length := by simpa using hlen
            have hfo := h.ev fo
            rw [hev] at hfo
            generalize hvf : a.eval fo = vf at hfo
            cases hfo with
            | leaf _ _ _ hb => simp [V.leafB] at hb
            | fn _ _ _ us hnt hl hr =>
            have hx := RelL.map_args h (c.args.toList.zip c.argTypes.toList)
            have hmap : (c.args.toList.zip c.argTypes.toList).map (fun p => a.eval p.1) = c.args.toList.map a.eval := by
              have : ∀ (l : List Operand) (l' : List TypeId), l.length = l'.length → (l.zip l').map (fun p => a.eval p.1) = l.map a.eval := by
                intro l
                induction l with
                | nil => intro l' _; simp
                | cons x l ih =>
                  intro l' hl'
                  cases l' with
                  | nil => simp at hl'
                  | cons y l' => simp [ih l' (by simpa using hl')]
              exact this _ _ hlen
            rw [hmap] at hx
            have hall := hx.append (PwL.of_bare hl hr)
            generalize ((c.args.toList.zip c.argTypes.toList).map fun p => nrm P p.2 (Go.Proofs.YtdahdpnkppknfaaGreatDoorM.ev S.G p.1)) ++ caps = xs at *
            simp only [List.append_nil] at hall
            rw [← modes_map ms xs] at hall
            obtain ⟨fa, ⟨F1, hI1, hN1, hfan, hsub, hfa⟩, hM, hsr⟩ := takeArgs_sound _ _ _ S F _ _ h hall hta
            have hIl : ∀ k, I k → k < w.heap.size := fun k hk => h.ilt hk
            have hfaO : ∀ b, b ∈ fa → ¬ C.O b ∧ b < w.heap.size := fun b hb => by
              obtain ⟨n, hn⟩ := (hfa b hb).1
              exact h.fresh n b hn
            obtain ⟨hent, hf⟩ := hf
            have hrun : (execOp a.eval o).run P w = .ok (.enter g' (c.args.toList.map a.eval ++ us).toArray) w := by
              unfold enters at hent
              cases hfn : P.funcs[g']? with
              | none => simp [hfn] at hent
              | some fn =>
                simp only [hfn, Bool.and_eq_true, Bool.not_eq_true'] at hent
                have n1 : ¬ fn.name = "runtime.NumGoroutine" := by simpa using hent.1
                have n2 : ¬ fn.body = none := fun z => by have := hent.2; simp [z] at this
                have e : (c.args.toList.map a.eval ++ us).toArray = c.args.map a.eval ++ us.toArray := by
                  apply Array.toList_inj.1
                  simp
                rw [e]
                simp [execOp, hop, resolve, hcal, hvf, Deferred.ofValue, invoke, callFunc, hfn, n1, n2]
            unfold Oper.wp
            rw [hrun]
            simp only [Oper.upon]
            have key : ∃ I' : Nat → Prop, (∀ b, I' b → b < w.heap.size) ∧ (∀ b, b ∈ fa → ¬ I' b) ∧ ArgsR P I' w (tellAll P H1 as) (c.args.toList.map a.eval ++ us) fa ∧ (keepAll as = true → I' = I) := by
              by_cases hkp : keepAll as = true
              · exact ⟨I, hIl, fun b hb hb' => (hfaO b hb).1 (h.iin b hb'), tell_keep H1 _ _ _ hM hkp, fun _ => rfl⟩
              · refine ⟨fun b => b < w.heap.size ∧ b ∉ fa, fun _ hb => hb.1, fun b hb hb' => hb'.2 hb, ?_, fun hk' => absurd hk' hkp⟩
                refine tell_lend (S := { S with H := H1 }) hI1 (fun b hb => ⟨hIl b hb, fun hb' => (hfaO b hb').1 (h.iin b hb)⟩) (fun n b hb => ⟨(hI1.fresh n b hb).2, fun hb' => (hfa b hb').2 n hb⟩) _ _ _ ?_
                dsimp only
                rw [hN1]
                exact hM
            obtain ⟨I', hI', hfaI, hargs, hsame⟩ := key
            refine (hf I' w _ fa hI' hfan hfaI hargs ⟨h.gl.1.step fun b hb => h.below.block b (h.gl.2 b hb), fun b hb hm => (hfaO b hm).1 (h.gl.2 b hb)⟩).mono ?_
            rintro e w' ⟨u, fp, gs, rfl, hres, hgs, hnd0, hfr0, hbel⟩
            show K (a.put o.dst u) w'
            have hbel' : Kp C.O w w' := hbel.mono (fun b hb => ⟨h.olt b hb, fun hb' => (hfaO b hb').1 hb⟩)
            have h2 := hI1.world hbel' (fun n b hb => hbel.block b ⟨(hI1.fresh n b hb).2, fun hb' => (hfa b hb').2 n hb⟩)
            have hres' : Rel P I w' (fun _ => undef) 0 false res u fp ∧ RelL P I w' (fun _ => undef) 0 false outs ((heads (tellAll P H1 as) (c.args.toList.map a.eval ++ us)).take outs.length) gs := by
              by_cases hkp : keepAll as = true
              · have := hsame hkp
                subst this
                exact ⟨hres, hgs⟩
              · have hnv : res.nv = true ∧ nvL outs = true := by simpa [hkp] using hk
                refine ⟨hres.own_bare hnv.1 I, hgs.mono fun c u g hc _ _ hr => hr.own_bare ?_ I⟩
                rw [nvL_all] at hnv
                exact List.all_eq_true.1 hnv.2 c hc
            obtain ⟨hres, hgs⟩ := hres'
            rw [heads_tell] at hgs
            obtain ⟨nd1, nd2, nd3⟩ := List.nodup_append.1 hnd0
            have hfresh : ∀ b, b ∈ fp ++ gs → ¬ C.O b ∧ ∀ m, b ∉ F1 m := fun b hb => by
              rcases hfr0 b hb with hb | hb
              · exact ⟨(hfaO b hb).1, (hfa b hb).2⟩
              · exact ⟨fun ho => by have := h.olt b ho; omega, fun m hm => by have := (hI1.fresh m b hm).2; omega⟩
            have hsr' : SrcR R ({ S with H := H1 } : St).H.length ss1 (heads as (c.args.toList.map a.eval ++ us)) := by
              dsimp only
              rw [hN1]
              exact hsr
            obtain ⟨R2, F2, q1, q2, q3, q4⟩ := giveBack_sound ss1 outs _ gs R { S with H := H1 } F1 _ h2 (Nat.le_refl _) hsr' hgs nd2 (fun b hb => hfresh b (List.mem_append_right _ hb))
            obtain ⟨R3, F3, e1, e2, _, _⟩ := openV_sound res u fp R2 { S with H := giveBack H1 ss1 outs } F2 q1 hres nd1 (fun b hb => ⟨(hfresh b (List.mem_append_left _ hb)).1, fun m hm => by
              rcases q4 m b hm with hm | hm
              · exact (hfresh b (List.mem_append_left _ hb)).2 m hm
              · exact nd3 b hb b hm rfl⟩)
            refine hK _ _ ?_ (fun hmv => ?_)
            · unfold putCall
              exact .of (e1.inv.put o.dst e2)
            · have hfa0 : fa = [] := by
                have : ∀ (ms : List Bool) (xs : List V) (H H' : List Blk) (as : List (Bool × V)) (ss : List (Option Nat)) (us : List Value) (fa : List Nat), ms.all (· == false) = true → takeArgs P H (modes ms xs) = some (as, H', ss) → RelM P I w R S.H.length as us fa → fa = [] := by
                  intro ms xs
                  induction xs generalizing ms with
                  | nil =>
                    intro H H' as ss us fa _ ht hM
                    simp only [modes, takeArgs, Option.some.injEq, Prod.mk.injEq] at ht
                    obtain ⟨rfl, _, _⟩ := ht
                    cases us with
                    | nil => exact hM
                    | cons u us => exact hM.elim
                  | cons x xs ih =>
                    intro H H' as ss us fa hms ht hM
                    have hm1 : ∃ ms', modes ms (x :: xs) = (false, x) :: modes ms' xs ∧ ms'.all (· == false) = true := by
                      cases ms with
                      | nil => exact ⟨[], rfl, rfl⟩
                      | cons m ms =>
                        simp only [List.all_cons, Bool.and_eq_true, beq_iff_eq] at hms
                        obtain ⟨rfl, hms⟩ := hms
                        exact ⟨ms, rfl, hms⟩
                    obtain ⟨ms', e, hms'⟩ := hm1
                    rw [e] at ht
                    unfold takeArgs at ht
                    split at ht
                    · rename_i as1 H2 s2 h2
                      simp only [Option.some.injEq, Prod.mk.injEq] at ht
                      obtain ⟨rfl, rfl, rfl⟩ := ht
                      cases us with
                      | nil => exact hM.elim
                      | cons u us => exact ih ms' _ _ _ _ us fa hms' h2 hM.2
                    · simp at ht
                exact this ms xs _ _ _ _ _ _ hmv hta hM
              subst hfa0
              exact ⟨hbel.size, fun b hb => hbel.block b ⟨hb, by simp⟩⟩
          · simp at hc
        · simp at hc
      · simp at hc
    · simp at hc
  · simp at hc
end
end Go.Proofs.YtdahdpnkppknfaaGreatDoorM
