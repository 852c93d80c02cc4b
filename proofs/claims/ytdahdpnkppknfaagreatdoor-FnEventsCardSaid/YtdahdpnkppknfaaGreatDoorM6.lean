/- The same state, told otherwise. No condition. -/
import Derived.Test.YtdahdpnkppknfaaGreatDoorM5
namespace Go.Proofs.YtdahdpnkppknfaaGreatDoorM
set_option linter.unusedVariables false
set_option linter.unusedSimpArgs false
open Go.RowKit

def maskG (live : List Nat) : Nat → List V → List V
  | _, [] => []
  | i, v :: vs => (match live.any (Nat.beq i) with | true => v | false => .un) :: maskG live (i + 1) vs
/-- Cell j of the element that was laid open last: a row of its own gets a number. -/
def open1 (n : Nat) (S : St) (j : Nat) : St :=
  match S.H[n]? with
  | some (.row e els ((i, y) :: fo)) => match y.cells[j]? with
    | some (.sl true e' els') => ⟨S.G, S.H.set n (.row e els ((i, withCells y j [.ow S.H.length]) :: fo)) ++ [.row e' els' []], S.gv⟩
    | _ => S
  | _ => S
/-- A row that has a number is laid back into cell j of the k-th open element. -/
def close1 (n k : Nat) (S : St) (j : Nat) : St :=
  match S.H[n]? with
  | some (.row e els fo) => match fo[k]? with
    | some (i, y) => match y.cells[j]? with
      | some (.ow m) => match S.H[m]? with
        | some (.row e' els' []) => if j = 0 ∨ y.isAggV = true then ⟨S.G, (S.H.set m .dead).set n (.row e els (fo.set k (i, withCells y j [.sl true e' els']))), S.gv⟩ else S
        | _ => S
      | _ => S
    | none => S
  | _ => S
def closeAll (n : Nat) (S : St) : St :=
  match S.H[n]? with
  | some (.row _ _ fo) => (List.range fo.length).foldl (fun S k => match fo[k]? with | some p => (List.range p.2.cells.length).foldl (fun S j => close1 n k S j) S | none => S) S
  | _ => S
def V.closedB : V → Bool
  | .un | .sc _ | .nl _ | .sl _ _ _ | .cp _ => true
  | _ => false
def ap (els : List V) (fo : List (Nat × V)) : List V := fo.foldr (fun p l => l.set p.1 p.2) els
def idx : List Nat → Nat → Nat → Option Nat
  | [], _, _ => none
  | m :: s, k, n => match Nat.beq m n with
    | true => some k
    | false => idx s (k + 1) n
mutual
/-- Numbers are told anew. -/
def V.ren (s : List Nat) : V → V
  | .ow n => match idx s 0 n with | some m => .ow m | none => .un
  | .sb n sz lo len => match idx s 0 n with | some m => .sb m sz lo len | none => .un
  | .ptr n off => match idx s 0 n with | some m => .ptr m off | none => .un
  | .ep n sz i off => match idx s 0 n with | some m => .ep m sz i off | none => .un
  | .mp n => match idx s 0 n with | some m => .mp m | none => .un
  | .agg cs => .agg (renL s cs)
  | .tup cs => .tup (renL s cs)
  | .fn g cs => .fn g (renL s cs)
  | v => v
def renL (s : List Nat) : List V → List V
  | [] => []
  | c :: cs => c.ren s :: renL s cs
end
theorem renL_map (s : List Nat) : ∀ cs : List V, renL s cs = cs.map (V.ren s)
  | [] => rfl
  | c :: cs => by simp [renL, renL_map s cs]
def Blk.ren (s : List Nat) : Blk → Blk
  | .dead => .dead
  | .box e cs => .box e (renL s cs)
  | .row e els fo => .row e els (fo.map fun p => (p.1, p.2.ren s))
  | .mset ks => .mset ks
def nodupB : List Nat → Bool
  | [] => true
  | n :: l => !(l.any (Nat.beq n)) && nodupB l
/-- A nil slice, told as a row of no elements. -/
def tidyC (P : Program) : V → V
  | .nl e => match szOf P e with
    | some (_ + 1) => .sl true e []
    | _ => .nl e
  | v => v
def tidyE (P : Program) : V → V
  | .agg cs => .agg (cs.map (tidyC P))
  | v => tidyC P v
def vadj1 (P : Program) (S : St) : It → Option (St × List Prop)
  | .mask live => some ({ S with G := maskG live 0 S.G }, [])
  | .nm d v => some ({ S with G := S.G.set d v }, [S.G.getD d .un = v])
  | .nb n b => some ({ S with H := S.H.set n b }, [S.H.getD n .dead = b])
  | .foc n i y => match homeRow S.H n with
    | some (e, els, fo) => some ((List.range y.cells.length).foldl (open1 n) { S with H := S.H.set n (.row e els ((i, y) :: fo)) }, [look fo i = none, els[i]? = some y])
    | none => none
  | .shut n => match homeRow (closeAll n S).H n with
    | some (e, els, fo) => if (fo.all fun p => p.2.cells.all V.closedB) = true then some ({ closeAll n S with H := (closeAll n S).H.set n (.row e (ap els (fo.map fun p => (p.1, tidyE P p.2))) []) }, []) else none
    | none => none
  | .ren s => match nodupB s with
    | true => some (⟨renL s S.G, s.map fun n => (S.H.getD n .dead).ren s, S.gv.map fun o => o.bind (idx s 0)⟩, [])
    | false => none
  | .own d => match S.G[d]? with
    | some (.nl e) => match szOf P e with
      | some (_ + 1) => some (⟨S.G.set d (.ow S.H.length), S.H ++ [.row e [] []], S.gv⟩, [])
      | _ => none
    | _ => none
  | .ownb n j => match homeBox S.H n with
    | some (e, cs) => match cs[j]? with
      | some (.nl e') => match szOf P e' with
        | some (_ + 1) => some (⟨S.G, S.H.set n (.box e (cs.set j (.ow S.H.length))) ++ [.row e' [] []], S.gv⟩, [])
        | _ => none
      | _ => none
    | none => none
  | .view d => match S.G[d]? with
    | some (.nl e) => match szOf P e with
      | some (_ + 1) => some ({ S with G := S.G.set d (.sl false e []) }, [])
      | _ => none
    | _ => none
  | _ => none
/-- How many operations are let by first. -/
def It.waits : It → Option Nat
  | .wait k => some k
  | _ => none
def vadj (P : Program) : List It → St → St × List It × List Prop
  | [], S => (S, [], [])
  | it :: its, S => match it.waits with
    | some (k + 1) => (S, .wait k :: its, [])
    | some 0 => vadj P its S
    | none => match vadj1 P S it with
      | some (S1, p) => match vadj P its S1 with
        | (S2, its', q) => (S2, its', p ++ q)
      | none => (S, it :: its, [])
theorem flatten_mem_set {fss : List (List Nat)} (h : fss.flatten.Nodup) {i : Nat} {f f' : List Nat} (hi : fss[i]? = some f) {b : Nat} (hb : b ∈ f) (hb' : b ∈ (fss.set i f').flatten) : b ∈ f' := by
  induction fss generalizing i with
  | nil => simp at hi
  | cons x fss ih =>
    rw [List.flatten_cons, List.nodup_append] at h
    cases i with
    | zero =>
      simp only [List.getElem?_cons_zero, Option.some.injEq] at hi
      subst hi
      rw [List.set_cons_zero, List.flatten_cons] at hb'
      rcases List.mem_append.1 hb' with hb' | hb'
      · exact hb'
      · exact absurd rfl (h.2.2 b hb b hb')
    | succ i =>
      rw [List.set_cons_succ, List.flatten_cons] at hb'
      rcases List.mem_append.1 hb' with hb' | hb'
      · exact absurd rfl (h.2.2 b hb' b (flatten_mem (by simpa using hi) hb))
      · exact ih h.2.1 (by simpa using hi) hb'
theorem flatten_ins {fss : List (List Nat)} (h : fss.flatten.Nodup) {i : Nat} {f f' g : List Nat} (hi : fss[i]? = some f) (hf : f'.Nodup) (hm : ∀ b, b ∈ f' → b ∈ f ∨ b ∈ g) (hg : ∀ b, b ∈ g → b ∉ fss.flatten) :
    (fss.set i f').flatten.Nodup ∧ ∀ b, b ∈ (fss.set i f').flatten → b ∈ fss.flatten ∨ b ∈ g := by
  induction fss generalizing i with
  | nil => simp at hi
  | cons x fss ih =>
    rw [List.flatten_cons, List.nodup_append] at h
    cases i with
    | zero =>
      simp only [List.getElem?_cons_zero, Option.some.injEq] at hi
      subst hi
      rw [List.set_cons_zero, List.flatten_cons, List.flatten_cons]
      refine ⟨List.nodup_append.2 ⟨hf, h.2.1, fun b hb b' hb' e => ?_⟩, fun b hb => ?_⟩
      · subst e
        rcases hm b hb with hb2 | hb2
        · exact h.2.2 b hb2 b hb' rfl
        · exact hg b hb2 (by rw [List.flatten_cons]; exact List.mem_append_right _ hb')
      · rcases List.mem_append.1 hb with hb | hb
        · exact (hm b hb).imp (List.mem_append_left _) id
        · exact .inl (List.mem_append_right _ hb)
    | succ i =>
      obtain ⟨q1, q2⟩ := ih h.2.1 (by simpa using hi) (fun b hb hb' => hg b hb (by rw [List.flatten_cons]; exact List.mem_append_right _ hb'))
      rw [List.set_cons_succ, List.flatten_cons, List.flatten_cons]
      refine ⟨List.nodup_append.2 ⟨h.1, q1, fun b hb b' hb' e => ?_⟩, fun b hb => ?_⟩
      · subst e
        rcases q2 b hb' with hb2 | hb2
        · exact h.2.2 b hb b hb2 rfl
        · exact hg b hb2 (by rw [List.flatten_cons]; exact List.mem_append_left _ hb)
      · rcases List.mem_append.1 hb with hb | hb
        · exact .inl (List.mem_append_left _ hb)
        · exact (q2 b hb).imp (List.mem_append_right _) id
theorem look_set {fo : List (Nat × V)} {k i : Nat} {y y' : V} (h : fo[k]? = some (i, y)) (x : Nat) : look (fo.set k (i, y')) x = look fo x ∨ (x = i ∧ look fo i = some y ∧ look (fo.set k (i, y')) i = some y') := by
  induction fo generalizing k with
  | nil => simp at h
  | cons p fo ih =>
    obtain ⟨j, z⟩ := p
    cases k with
    | zero =>
      simp only [List.getElem?_cons_zero, Option.some.injEq, Prod.mk.injEq] at h
      obtain ⟨rfl, rfl⟩ := h
      rw [List.set_cons_zero]
      by_cases e : x = j
      · exact .inr ⟨e, look_cons_self _ _ _, look_cons_self _ _ _⟩
      · exact .inl (by rw [look_cons_ne _ _ e, look_cons_ne _ _ e])
    | succ k =>
      rw [List.set_cons_succ]
      by_cases e : x = j
      · subst e; exact .inl (by rw [look_cons_self, look_cons_self])
      · rw [look_cons_ne _ _ e, look_cons_ne _ _ e]
        rcases ih (by simpa using h) with h1 | ⟨rfl, h2, h3⟩
        · exact .inl h1
        · exact .inr ⟨rfl, by rw [look_cons_ne _ _ e]; exact h2, by rw [look_cons_ne _ _ e]; exact h3⟩
theorem length_ap (els : List V) (fo : List (Nat × V)) : (ap els fo).length = els.length := by
  induction fo with
  | nil => rfl
  | cons p fo ih => simp only [ap, List.foldr_cons, List.length_set] at ih ⊢; exact ih
theorem ap_get (els : List V) (fo : List (Nat × V)) (i : Nat) (hi : i < els.length) : (ap els fo)[i]? = some ((look fo i).getD (els[i])) := by
  induction fo with
  | nil => simp [ap, look, hi]
  | cons p fo ih =>
    obtain ⟨j, z⟩ := p
    have e : ap els ((j, z) :: fo) = (ap els fo).set j z := rfl
    rw [e, List.getElem?_set]
    by_cases h : j = i
    · subst h
      rw [if_pos rfl, if_pos (by rw [length_ap]; exact hi), look_cons_self]
      rfl
    · rw [if_neg h, look_cons_ne _ _ (fun z => h z.symm)]
      exact ih
theorem nodupB_spec : ∀ l : List Nat, nodupB l = true → l.Nodup
  | [], _ => List.nodup_nil
  | n :: l, h => by
    simp only [nodupB, Bool.and_eq_true, Bool.not_eq_true'] at h
    refine List.nodup_cons.2 ⟨fun hm => ?_, nodupB_spec l h.2⟩
    have := h.1
    rw [List.any_eq_false] at this
    exact this n hm (by simp)
theorem idx_spec : ∀ (s : List Nat) (k n m : Nat), idx s k n = some m → k ≤ m ∧ s[m - k]? = some n
  | [], _, _, _, h => by simp [idx] at h
  | x :: s, k, n, m, h => by
    unfold idx at h
    split at h
    · rename_i e
      obtain rfl := Option.some.inj h
      simp at e
      simp [e]
    · obtain ⟨h1, h2⟩ := idx_spec s (k + 1) n m h
      refine ⟨by omega, ?_⟩
      rw [show m - k = (m - (k + 1)) + 1 by omega]
      simpa using h2
section
variable {P : Program} {R R' : Nat → Value} {N : Nat} {I : Nat → Prop} {w w' : World} {C : Ctx} {S S' : St} {a : Act} {F F' : Nat → List Nat} {t : Bool} {v : V} {u : Value} {f : List Nat}
theorem Rel.closed (h : Rel P I w R N t v u f) (hc : v.closedB = true) (t' : Bool) : Rel P I w R' N t' v u f := by
  cases h with
  | leaf _ _ _ hb h => exact .leaf _ _ _ hb h
  | row _ e els v sz uss fss hs hz ho hlen hfl hcc hr => exact (Rel.row t e els u sz uss fss hs hz ho hlen hfl hcc hr).openRow t'
  | _ => simp [V.closedB] at hc
theorem Rel.row_slice {e : Nat} {els : List V} (h : Rel P I w R N t (.sl true e els) u f) : ∃ A cap, u = .slice A els.length cap := by
  obtain ⟨_, _, _, _, _, ⟨_, A, cap, hu, _⟩, _⟩ := h.row_inv (R' := R) (N' := N)
  exact ⟨A, cap, hu⟩
theorem Rel.row_blk {e : Nat} {els : List V} {n : Nat} (h : Rel P I w R N t (.sl true e els) u f) (hR : R' n = u) : BlkOk P I w R' N n (.row e els []) f := by
  obtain ⟨sz, uss, ffs, h1, h2, h3, h4, h5, h6, rfl⟩ := h.row_inv (R' := R') (N' := N)
  exact ⟨sz, uss, ffs, h1, h2, by rw [hR]; exact h3, h4, h5, fun i x us f hx hus hf => h6 i x us f hx hus hf, by rw [hR]⟩
theorem BlkOk.row_rel {e : Nat} {els : List V} {n : Nat} (h : BlkOk P I w R N n (.row e els []) f) (t : Bool) : Rel P I w R' N t (.sl true e els) (R n) f := by
  obtain ⟨sz, uss, ffs, h1, h2, h3, h4, h5, h6, rfl⟩ := h
  exact Rel.row_mk t h1 h2 h3 h4 h5 (fun i x us f hx hus hf => h6 i x us f hx hus hf)
theorem withCells_one {y v c : V} {j : Nat} (hc : y.cells[j]? = some c) (hv : v.cells = [v]) : (withCells y j [v]).cells = y.cells.set j v := by
  have hjl := (List.getElem?_eq_some_iff.1 hc).1
  cases y with
  | agg cs =>
    simp only [withCells, V.cells] at hjl ⊢
    apply List.ext_getElem?
    intro k
    rw [splice_get _ _ _ _ (by simp; omega), List.getElem?_set]
    by_cases a1 : k < j
    · rw [if_pos a1, if_neg (by omega)]
    · by_cases a2 : j = k
      · subst a2; simp [hjl]
      · simp only [List.length_singleton]
        rw [if_neg a1, if_neg (by omega), if_neg a2]
  | _ =>
    rcases j with _ | j
    · simpa [withCells, V.cells] using hv
    · simp [V.cells] at hc
def OpenAt (n : Nat) (S : St) : Prop := ∃ e els i y fo, S.H[n]? = some (.row e els ((i, y) :: fo)) ∧ i < els.length
theorem open1_sound {n j : Nat} (h : InvE P I C S a w) (ho : OpenAt n S) : InvE P I C (open1 n S j) a w ∧ OpenAt n (open1 n S j) := by
  obtain ⟨e, els, i, y, fo, hg, hi⟩ := ho
  unfold open1
  rw [hg]
  dsimp only
  split
  · rename_i e' els' hc
    have hn := (List.getElem?_eq_some_iff.1 hg).1
    refine ⟨?_, e, els, i, _, fo, by rw [List.getElem?_append_left (by simpa using hn), List.getElem?_set, if_pos rfl, if_pos hn], hi⟩
    obtain ⟨R, F, h⟩ := h
    obtain ⟨sz, uss, ffs, h1, h2, h3, h4, h5, h6, hF⟩ := h.blk n _ hg
    have hu : uss[i]? = some (uss[i]'(by omega)) := List.getElem?_eq_getElem (by omega)
    generalize uss[i]'(by omega) = us at hu
    have hf : ffs[i]? = some (ffs[i]'(by omega)) := List.getElem?_eq_getElem (by omega)
    generalize ffs[i]'(by omega) = f at hf
    have hE := h6 i _ us f (List.getElem?_eq_getElem hi) hu hf
    unfold ElB at hE
    rw [look_cons_self] at hE
    obtain ⟨e1, e2, e3, e4⟩ := hE
    obtain ⟨u, g, f', p1, p2, p3, p4, p5, p6⟩ := e4.at j hc
    obtain ⟨A, cap, rfl⟩ := p2.row_slice
    have hnd := h.nodup n
    rw [hF] at hnd
    have hnd2 := (List.nodup_append.1 hnd).2.1
    have hfF : ∀ b, b ∈ f → b ∈ F n := fun b hb => by rw [hF]; exact List.mem_append_right _ (flatten_mem hf hb)
    have hfn : f.Nodup := (List.sublist_flatten_of_mem (List.mem_of_getElem? hf)).nodup hnd2
    have hsub : (fbOf (R n) ++ (ffs.set i f').flatten).Sublist (F n) := by rw [hF]; exact (List.Sublist.refl _).append (flatten_sub hf p4)
    have hgL : ∀ b, b ∈ g → b ∉ fbOf (R n) ++ (ffs.set i f').flatten := fun b hb hb' => by
      have hbf := p3.subset hb
      rcases List.mem_append.1 hb' with hb' | hb'
      · exact (List.nodup_append.1 hnd).2.2 b hb' b (flatten_mem hf hbf) rfl
      · exact p5 hfn b hb (flatten_mem_set hnd2 hf hbf hb')
    -- a new block for the row; the old row without it
    have hb1 : BlkOk P I w (updR R S.H.length (.slice A els'.length cap)) (S.H.length + 1) S.H.length (.row e' els' []) g := by
      have := p2.row_blk (R' := updR R S.H.length (.slice A els'.length cap)) (n := S.H.length) (updR_self _ _ _)
      obtain ⟨sz, uss, ffs, k1, k2, k3, k4, k5, k6, k7⟩ := this
      exact ⟨sz, uss, ffs, k1, k2, k3, k4, k5, fun i x us f hx hus hf => ElR.shut (k6 i x us f hx hus hf), k7⟩
    -- first the row n lets its cell go
    let S1 : St := { S with H := S.H.set n .dead }
    have hkill := h.kill n
    have hnew := hkill.new (S := S1) (b := .row e' els' []) (r := .slice A els'.length cap) (f := g) (Kp.refl _ _) (fun _ _ _ => rfl) (by
      have hl : S1.H.length = S.H.length := by simp [S1]
      rw [hl]; exact hb1) (p3.nodup hfn) (fun b hb => ⟨(h.fresh n b (hfF b (p3.subset hb))).1, fun m hm hm2 => by
      unfold upd at hm2
      split at hm2
      · simp at hm2
      · rename_i hmn
        exact hmn (h.disj m n b hm2 (hfF b (p3.subset hb)))⟩)
    have hl : S1.H.length = S.H.length := by simp [S1]
    rw [hl] at hnew
    have hRn : updR R S.H.length (.slice A els'.length cap) n = R n := updR_lt _ _ _ n hn
    have hturn := hnew.turn n (b' := .row e els ((i, withCells y j [.ow S.H.length]) :: fo)) (f' := fbOf (R n) ++ (ffs.set i f').flatten) (Kp.refl _ _) (fun _ _ _ _ => rfl) ?_ (hsub.nodup (h.nodup n)) (fun b hb => ⟨(h.fresh n b (hsub.subset hb)).1, fun m hm hm2 => ?_⟩)
    · have hset : (S1.H ++ [Blk.row e' els' []]).set n (.row e els ((i, withCells y j [.ow S.H.length]) :: fo)) = S.H.set n (.row e els ((i, withCells y j [.ow S.H.length]) :: fo)) ++ [.row e' els' []] := by
        rw [List.set_append_left _ _ (by rw [hl]; exact hn)]
        simp [S1]
      simp only [hset] at hturn
      exact .of hturn
    · have hl2 : ({ S1 with H := S1.H ++ [Blk.row e' els' []] } : St).H.length = S.H.length + 1 := by simp [hl]
      rw [hl2]
      refine ⟨sz, uss, ffs.set i f', h1, h2, by rw [hRn]; exact h3, h4, by simpa using h5, fun k x us2 f2 hx hus hf2 => ?_, by rw [hRn]⟩
      rw [List.getElem?_set] at hf2
      by_cases ek : i = k
      · subst ek
        rw [if_pos rfl, if_pos (by omega)] at hf2
        obtain rfl := Option.some.inj hf2
        rw [hu] at hus
        obtain rfl := Option.some.inj hus
        unfold ElB
        rw [look_cons_self]
        have hcs := withCells_one (v := .ow S.H.length) hc rfl
        refine ⟨by rw [hcs, List.length_set]; exact e1, e2, e3, ?_⟩
        rw [hcs]
        exact p6 _ (fun c u g hr => hr.env (Nat.le_succ _) (updR_lt _ _ _)) _ (.ow S.H.length (by omega) els'.length cap A (updR_self _ _ _))
      · rw [if_neg ek] at hf2
        have hE := h6 k x us2 f2 hx hus hf2
        have hE2 := ElB.env (R' := updR R S.H.length (.slice A els'.length cap)) (N' := S.H.length + 1) hE (Nat.le_succ _) (updR_lt _ _ _)
        unfold ElB at hE2 ⊢
        rw [look_cons_ne _ _ (fun z => ek z.symm)] at hE2 ⊢
        exact hE2
    · unfold upd at hm2
      split at hm2
      · exact hgL b hm2 hb
      · exact hm (h.disj m n b hm2 (hsub.subset hb))
  · exact ⟨h, e, els, i, y, fo, hg, hi⟩
theorem close1_sound {n k j : Nat} (h : InvE P I C S a w) : InvE P I C (close1 n k S j) a w := by
  unfold close1
  split
  · rename_i e els fo hg
    split
    · rename_i i y hfo
      split
      · rename_i m hc
        split
        · rename_i e' els' hm
          split
          · obtain ⟨R, F, h⟩ := h
            have hn := (List.getElem?_eq_some_iff.1 hg).1
            have hml := (List.getElem?_eq_some_iff.1 hm).1
            have hmn : m ≠ n := fun z => by
              subst z
              rw [hg] at hm
              simp only [Option.some.injEq, Blk.row.injEq] at hm
              rw [hm.2.2] at hfo
              simp at hfo
            obtain ⟨sz, uss, ffs, h1, h2, h3, h4, h5, h6, hF⟩ := h.blk n _ hg
            have hrm : Rel P I w R S.H.length true (.sl true e' els') (R m) (F m) := (h.blk m _ hm).row_rel true
            have hkill := h.kill m
            have hcs := withCells_one (v := .sl true e' els') hc rfl
            have hdis : ∀ b, b ∈ F m → b ∉ F n := fun b hb hb' => hmn (h.disj m n b hb hb')
            by_cases hcase : i < els.length ∧ look fo i = some y ∧ look (fo.set k (i, withCells y j [.sl true e' els'])) i = some (withCells y j [.sl true e' els'])
            · obtain ⟨hi, hlk, hlk2⟩ := hcase
              have hu : uss[i]? = some (uss[i]'(by omega)) := List.getElem?_eq_getElem (by omega)
              generalize uss[i]'(by omega) = us at hu
              have hf : ffs[i]? = some (ffs[i]'(by omega)) := List.getElem?_eq_getElem (by omega)
              generalize ffs[i]'(by omega) = f at hf
              have hE := h6 i _ us f (List.getElem?_eq_getElem hi) hu hf
              unfold ElB at hE
              rw [hlk] at hE
              obtain ⟨e1, e2, e3, e4⟩ := hE
              obtain ⟨u, g0, hu', hr0, _⟩ := e4.get hc
              have hue : u = R m := by
                cases hr0 with
                | leaf _ _ _ hb => simp [V.leafB] at hb
                | ow _ _ L c A hR' => exact hR'.symm
              subst hue
              obtain ⟨f', r1, r2, r3⟩ := e4.ins j hu' hrm
              have hnd := h.nodup n
              rw [hF] at hnd
              have hnd2 := (List.nodup_append.1 hnd).2.1
              have hff : ∀ b, b ∈ ffs.flatten → b ∈ F n := fun b hb => by rw [hF]; exact List.mem_append_right _ hb
              obtain ⟨q1, q2⟩ := flatten_ins (g := F m) hnd2 hf (r3 ((List.sublist_flatten_of_mem (List.mem_of_getElem? hf)).nodup hnd2) (h.nodup m) (fun b hb hb' => hdis b hb (hff b (flatten_mem hf hb')))) r2 (fun b hb hb' => hdis b hb (hff b hb'))
              have hall : ∀ b, b ∈ fbOf (R n) ++ (ffs.set i f').flatten → b ∈ F n ∨ b ∈ F m := fun b hb => by
                rcases List.mem_append.1 hb with hb | hb
                · exact .inl (by rw [hF]; exact List.mem_append_left _ hb)
                · exact (q2 b hb).imp (hff b) id
              refine .of (hkill.turn n (b' := .row e els (fo.set k (i, withCells y j [.sl true e' els']))) (f' := fbOf (R n) ++ (ffs.set i f').flatten) (Kp.refl _ _) (fun _ _ _ _ => rfl) ?_ ?_ (fun b hb => ⟨?_, fun p hp hp2 => ?_⟩))
              · simp only [List.length_set]
                refine ⟨sz, uss, ffs.set i f', h1, h2, h3, h4, by simpa using h5, fun x z us2 f2 hx hus hf2 => ?_, rfl⟩
                rw [List.getElem?_set] at hf2
                by_cases ek : i = x
                · subst ek
                  rw [if_pos rfl, if_pos (by omega)] at hf2
                  obtain rfl := Option.some.inj hf2
                  rw [hu] at hus
                  obtain rfl := Option.some.inj hus
                  unfold ElB
                  rw [hlk2]
                  exact ⟨by rw [hcs, List.length_set]; exact e1, e2, e3, by rw [hcs]; exact r1⟩
                · rw [if_neg ek] at hf2
                  have hE := h6 x z us2 f2 hx hus hf2
                  rcases look_set (y' := withCells y j [.sl true e' els']) hfo x with hl | ⟨hxi, _, _⟩
                  · unfold ElB at hE ⊢
                    rw [hl]
                    exact hE
                  · exact absurd hxi.symm ek
              · exact List.nodup_append.2 ⟨(List.nodup_append.1 hnd).1, q1, fun b hb b' hb' ee => by
                  subst ee
                  rcases q2 b hb' with hb2 | hb2
                  · exact (List.nodup_append.1 hnd).2.2 b hb b hb2 rfl
                  · exact hdis b hb2 (by rw [hF]; exact List.mem_append_left _ hb)⟩
              · rcases hall b hb with hb | hb
                · exact (h.fresh n b hb).1
                · exact (h.fresh m b hb).1
              · unfold upd at hp2
                split at hp2
                · simp at hp2
                · rename_i hpm
                  rcases hall b hb with hb | hb
                  · exact hp (h.disj p n b hp2 hb)
                  · exact hpm (h.disj p m b hp2 hb)
            · refine .of (hkill.turn n (b' := .row e els (fo.set k (i, withCells y j [.sl true e' els']))) (f' := F n) (Kp.refl _ _) (fun _ _ _ _ => rfl) ?_ (h.nodup n) (fun b hb => ⟨(h.fresh n b hb).1, fun p hp hp2 => ?_⟩))
              · simp only [List.length_set]
                refine ⟨sz, uss, ffs, h1, h2, h3, h4, h5, fun x z us2 f2 hx hus hf2 => ?_, hF⟩
                have hE := h6 x z us2 f2 hx hus hf2
                rcases look_set (y' := withCells y j [.sl true e' els']) hfo x with hl | ⟨hxi, hl, hl2⟩
                · unfold ElB at hE ⊢
                  rw [hl]
                  exact hE
                · subst hxi
                  exact absurd ⟨(List.getElem?_eq_some_iff.1 hx).1, hl, hl2⟩ hcase
              · unfold upd at hp2
                split at hp2
                · simp at hp2
                · exact hp (h.disj p n b hp2 hb)
          · exact h
        · exact h
      · exact h
    · exact h
  · exact h
end
end Go.Proofs.YtdahdpnkppknfaaGreatDoorM
