/- Code is run by value. No condition. -/
import Derived.Test.YtdahdpnkppknfaaGreatDoorM14
namespace Go.Proofs.YtdahdpnkppknfaaGreatDoorM
set_option linter.unusedVariables false
set_option linter.unusedSimpArgs false
open Go.RowKit

/-- A piece of code, run: it is left so, in such a state. -/
def HT (P : Program) (c : Code) (G : St) (x : X) (G' : St) : Prop :=
  ∀ (I : Nat → Prop) (C : Ctx) (a : Act) (w : World), InvE P I C G a w → ∀ Q : Exit → Act → World → Prop, (∀ a' w', InvE P I C G' a' w' → Q x.exit a' w') → c.wp P Q a w
def Loop (P : Program) (c : Code) (G : St) (x : X) (G' : St) : Prop :=
  ∀ (I : Nat → Prop) (C : Ctx) (a : Act) (w : World), InvE P I C G a w → ∀ Q : Exit → Act → World → Prop, (∀ a' w', InvE P I C G' a' w' → Q x.exit a' w') →
    ∀ (b : Frame) (k : List Item) (cs : List Frame), ∃ e a' w', Q e a' w' ∧ Arrives P (lone (b.at a (.code c :: .inLoop c :: k)) cs w) b k cs e a' w'
/-- How large a piece of code is. -/
def nodes : Code → Nat
  | .seq a b => nodes a + nodes b + 1
  | .cond _ t e => nodes t + nodes e + 1
  | .block _ c => nodes c + 1
  | .loop c => nodes c + 1
  | _ => 1
/-- A piece of code that is told by itself (the item names it by its size). -/
def vjoin (P : Program) (c : Code) (G : St) (it : List It) : Option (X × St × List It × List Prop) := match vadj P it G with
  | (G1, .join n x G' :: it1, p) => if n = nodes c then (match vadj P it1 G' with
    | (G2, it2, p2) => some (x, G2, it2, p ++ (HT P c G1 x G' :: p2))) else none
  | _ => none
theorem vjoin_sound {P : Program} {c : Code} {G G' : St} {x : X} {it it' : List It} {p : List Prop} (h : vjoin P c G it = some (x, G', it', p)) (hp : conj p) : HT P c G x G' := by
  unfold vjoin at h
  split at h
  · rename_i G1 n x1 G2 it1 p1 ha
    split at h
    · split at h
      rename_i G3 it2 p2 ha2
      simp only [Option.some.injEq, Prod.mk.injEq] at h
      obtain ⟨rfl, rfl, rfl, rfl⟩ := h
      obtain ⟨q1, q2⟩ := conj_append hp
      obtain ⟨q2, q3⟩ := conj_cons q2
      exact fun I C a w hI Q hQ => q2 I C a w (vadj_sound _ _ ha q1 hI) Q (fun a' w' hI' => hQ a' w' (vadj_sound _ _ ha2 q3 hI'))
    · simp at h
  · simp at h
def vexec (P : Program) : Code → St → List It → Option (X × St × List It × List Prop)
  | .skip, G, it => some (.go, G, it, [])
  | .region _ ops true, G, .draw ds :: it => match P.follows .mixedOrders, Region.noSelect ops with
    | true, true => match vdraw P ops ds ops.size (Array.replicate ops.size false) G it with
      | some (G', it', p) => some (.go, G', it', p)
      | none => none
    | _, _ => none
  | .region _ ops false, G, it => match vgo P ops ops.toList G it with
    | some (G', it', p) => some (.go, G', it', p)
    | none => none
  | .seq a b, G, it => match vjoin P (.seq a b) G it with
    | some r => some r
    | none => match vexec P a G it with
    | some (.go, G1, it1, p1) => match vexec P b G1 it1 with
      | some (x, G2, it2, p2) => some (x, G2, it2, p1 ++ p2)
      | none => none
    | some (x, G1, it1, p1) => some (x, G1, it1, p1)
    | none => none
  | .cond c t e, G, it => match vjoin P (.cond c t e) G it with
    | some r => some r
    | none => match ev G.G c, it with
    | .sc (.bool b), .bit g :: it1 => match (match g with | true => vexec P t G it1 | false => vexec P e G it1) with
      | some (x, G', it', p) => some (x, G', it', (b = g) :: p)
      | none => none
    | _, _ => none
  | .block id c, G, it => match vjoin P (.block id c) G it with
    | some r => some r
    | none => match vexec P c G it with
    | some (.out id', G1, it1, p1) => if id' = id then some (.go, G1, it1, p1) else some (.out id', G1, it1, p1)
    | r => r
  | .exit id, G, it => some (.out id, G, it, [])
  | .ret, G, it => some (.ret, G, it, [])
  | .loop c, G, it => match vadj P it G with
    | (G1, .loop x G' :: it1, p) => match vadj P it1 G' with
      | (G2, it2, p2) => some (x, G2, it2, p ++ (Loop P c G1 x G' :: p2))
    | _ => none
  | _, _, _ => none
section
variable {P : Program} {G G' G1 G2 : St} {x : X}
theorem Loop.step {c : Code} (h : HT P c G .go G1) (h2 : Loop P c G1 x G') : Loop P c G x G' := by
  intro I C a w hI Q hQ b k cs
  obtain ⟨e, a1, w1, ⟨rfl, hI1⟩, harr⟩ := h I C a w hI (fun e a' w' => e = .normal ∧ InvE P I C G1 a' w') (fun a' w' h' => ⟨rfl, h'⟩) b (.inLoop c :: k) cs
  obtain ⟨e2, a2, w2, hq2, harr2⟩ := h2 I C a1 w1 hI1 Q hQ b k cs
  exact ⟨e2, a2, w2, hq2, .of_steps (Steps.trans harr (.one step_inLoop)) harr2⟩
theorem Loop.done {c : Code} (h : HT P c G x G') (hx : x ≠ .go) : Loop P c G x G' := by
  intro I C a w hI Q hQ b k cs
  obtain ⟨e, a1, w1, ⟨rfl, hI1⟩, harr⟩ := h I C a w hI (fun e a' w' => e = x.exit ∧ InvE P I C G' a' w') (fun a' w' h' => ⟨rfl, h'⟩) b (.inLoop c :: k) cs
  have hne : x.exit ≠ .normal := by cases x <;> simp [X.exit] at hx ⊢
  exact ⟨_, a1, w1, hQ _ _ hI1, .pass (x := .inLoop c) rfl (fun _ _ => .inl hne) harr⟩
theorem vexec_sound : ∀ (c : Code) (G G' : St) (it it' : List It) (x : X) (p : List Prop), vexec P c G it = some (x, G', it', p) → conj p → HT P c G x G'
  | .skip, G, G', it, it', x, p, h, _ => by
    simp only [vexec, Option.some.injEq, Prod.mk.injEq] at h
    obtain ⟨rfl, rfl, _⟩ := h
    exact fun I C a w hI Q hQ => wp_skip (hQ a w hI)
  | .region id ops true, G, G', it, it', x, p, h, hp => by
    cases it with
    | nil => simp [vexec] at h
    | cons i it =>
      cases i <;> simp only [vexec, reduceCtorEq] at h
      split at h
      · rename_i hm hns
        split at h
        · rename_i G1 it1 p1 hv
          simp only [Option.some.injEq, Prod.mk.injEq] at h
          obtain ⟨rfl, rfl, rfl, rfl⟩ := h
          intro I C a w hI Q hQ
          refine Go.wp_mono (Q := fun e a' w' => e = .normal ∧ InvE P I C G1 a' w') ?_ (fun e a' w' ⟨he, hI'⟩ => by subst he; exact hQ a' w' hI')
          refine wp_region_any hm (wpAny_of_G _ _ _ _ (vdraw_sound (Region.noSelect_spec hns) (fun c a w hq => by simp at hq) _ _ G G1 it _ _ hv hp (fun j oj hj hl => ?_) I C a _ ?_ (fun a' w' hI' => ⟨rfl, hI'⟩)))
          · simp only [Array.getD_eq_getD_getElem?, Array.getElem?_replicate] at hl
            split at hl <;> simp at hl
          · obtain ⟨R, F, hI⟩ := hI
            exact .of (hI.world ⟨rfl, rfl, rfl, Nat.le_refl _, fun _ _ => rfl⟩ (fun _ _ _ => rfl))
        · simp at h
      · simp at h
  | .region id ops false, G, G', it, it', x, p, h, hp => by
    unfold vexec at h
    split at h
    · rename_i G1 it1 p1 hg
      simp only [Option.some.injEq, Prod.mk.injEq] at h
      obtain ⟨rfl, rfl, rfl, rfl⟩ := h
      exact fun I C a w hI Q hQ => wp_region_list (vgo_sound ops.toList G _ it _ _ hg hp I C a w hI Q hQ)
    · simp at h
  | .seq c d, G, G', it, it', x, p, h, hp => by
    unfold vexec at h
    split at h
    · rename_i r hr
      simp only [Option.some.injEq] at h
      subst h
      exact vjoin_sound hr hp
    · split at h
      · rename_i G1 it1 p1 h1
        split at h
        · rename_i x2 G2 it2 p2 h2
          simp only [Option.some.injEq, Prod.mk.injEq] at h
          obtain ⟨rfl, rfl, rfl, rfl⟩ := h
          have e1 := vexec_sound c G G1 it it1 .go p1 h1 (conj_append hp).1
          have e2 := vexec_sound d G1 _ it1 _ _ p2 h2 (conj_append hp).2
          exact fun I C a w hI Q hQ => wp_seq (e1 I C a w hI _ (fun a' w' hI' => e2 I C a' w' hI' Q hQ))
        · simp at h
      · rename_i x1 G1 it1 p1 hne h1
        simp only [Option.some.injEq, Prod.mk.injEq] at h
        obtain ⟨rfl, rfl, rfl, rfl⟩ := h
        have e1 := vexec_sound c G _ it _ _ _ h1 hp
        refine fun I C a w hI Q hQ => wp_seq (e1 I C a w hI _ (fun a' w' hI' => ?_))
        have := hQ a' w' hI'
        cases x1 with
        | go => exact absurd rfl hne
        | out id => exact this
        | ret => exact this
      · simp at h
  | .cond c t e, G, G', it, it', x, p, h, hp => by
    unfold vexec at h
    split at h
    · rename_i r hr
      simp only [Option.some.injEq] at h
      subst h
      exact vjoin_sound hr hp
    · split at h
      · rename_i b g it1 hb hneg
        split at h
        · rename_i x2 G2 it2 p2 hr
          simp only [Option.some.injEq, Prod.mk.injEq] at h
          obtain ⟨rfl, rfl, rfl, rfl⟩ := h
          obtain ⟨hbg, hp2⟩ := conj_cons hp
          subst hbg
          intro I C a w hI Q hQ
          have hI' := hI
          obtain ⟨R, F, hI2⟩ := hI'
          have hc := hI2.ev c
          rw [hb] at hc
          cases b with
          | true => exact wp_cond (t := true) hc.sc_eq (vexec_sound t G _ it1 _ _ p2 hr hp2 I C a w hI Q hQ)
          | false => exact wp_cond (t := false) hc.sc_eq (vexec_sound e G _ it1 _ _ p2 hr hp2 I C a w hI Q hQ)
        · simp at h
      · simp at h
  | .block id c, G, G', it, it', x, p, h, hp => by
    unfold vexec at h
    split at h
    · rename_i r hr
      simp only [Option.some.injEq] at h
      subst h
      exact vjoin_sound hr hp
    · split at h
      · rename_i id' G1 it1 p1 h1
        split at h
        · rename_i he
          subst he
          simp only [Option.some.injEq, Prod.mk.injEq] at h
          obtain ⟨rfl, rfl, rfl, rfl⟩ := h
          have e1 := vexec_sound c G _ it _ _ _ h1 hp
          exact fun I C a w hI Q hQ => wp_block (e1 I C a w hI _ (fun a' w' hI' => by simpa [X.exit, Exit.inBlock] using hQ a' w' hI'))
        · rename_i he
          simp only [Option.some.injEq, Prod.mk.injEq] at h
          obtain ⟨rfl, rfl, rfl, rfl⟩ := h
          have e1 := vexec_sound c G _ it _ _ _ h1 hp
          exact fun I C a w hI Q hQ => wp_block (e1 I C a w hI _ (fun a' w' hI' => by simpa [X.exit, Exit.inBlock, he] using hQ a' w' hI'))
      · rename_i hne
        have e1 := vexec_sound c G _ it _ _ _ h hp
        refine fun I C a w hI Q hQ => wp_block (e1 I C a w hI _ (fun a' w' hI' => ?_))
        have := hQ a' w' hI'
        cases x with
        | go => exact this
        | out id' => exact absurd h (hne id' G' it' p)
        | ret => exact this
  | .exit id, G, G', it, it', x, p, h, _ => by
    simp only [vexec, Option.some.injEq, Prod.mk.injEq] at h
    obtain ⟨rfl, rfl, _⟩ := h
    exact fun I C a w hI Q hQ => wp_exit (hQ a w hI)
  | .ret, G, G', it, it', x, p, h, _ => by
    simp only [vexec, Option.some.injEq, Prod.mk.injEq] at h
    obtain ⟨rfl, rfl, _⟩ := h
    exact fun I C a w hI Q hQ => wp_ret (hQ a w hI)
  | .loop c, G, G', it, it', x, p, h, hp => by
    unfold vexec at h
    split at h
    · rename_i G1 x1 G2 it1 p1 ha
      split at h
      rename_i G3 it2 p2 ha2
      simp only [Option.some.injEq, Prod.mk.injEq] at h
      obtain ⟨rfl, rfl, rfl, rfl⟩ := h
      obtain ⟨q1, q2⟩ := conj_append hp
      obtain ⟨q2, q3⟩ := conj_cons q2
      intro I C a w hI Q hQ b k cs
      obtain ⟨e, a', w', hq, harr⟩ := q2 I C a w (vadj_sound _ _ ha q1 hI) Q (fun a' w' hI' => hQ a' w' (vadj_sound _ _ ha2 q3 hI')) b k cs
      exact ⟨e, a', w', hq, .of_steps (.one step_loop) harr⟩
    · simp at h
  | .rangeFunc .., G, G', it, it', x, p, h, _ => by simp [vexec] at h
  | .scope .., G, G', it, it', x, p, h, _ => by simp [vexec] at h
  | .label .., G, G', it, it', x, p, h, _ => by simp [vexec] at h
  | .goto .., G, G', it, it', x, p, h, _ => by simp [vexec] at h
  | .refuse .., G, G', it, it', x, p, h, _ => by simp [vexec] at h
end
end Go.Proofs.YtdahdpnkppknfaaGreatDoorM
