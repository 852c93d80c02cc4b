/- Steps, and regions that draw their order. No condition. -/
import Derived.Test.YtdahdpnkppknfaaGreatDoorM13
import Derived.OrdersHeld
namespace Go.Proofs.YtdahdpnkppknfaaGreatDoorM
set_option linter.unusedVariables false
set_option linter.unusedSimpArgs false
open Go.RowKit

/-- An operation that calls no function of Go's text. -/
def vop (P : Program) (o : Oper) (S : St) (its : List It) : Option (St × List It × List Prop) :=
  match vn P o (ev S.G) its with
  | some (v, its', p) => some ({ S with G := putV S.G o.dst v }, its', p)
  | none => match vbox P o S with
    | some S' => some (S', its, [])
    | none => match vread P o S its with
      | some r => some r
      | none => match vmake P o S its with
        | some r => some r
        | none => match vstore P o S its with
          | some r => some r
          | none => match vbuild P o S.G with
            | some v => some ({ S with G := putV S.G o.dst v }, its, [])
            | none => match vconv P o S its with
              | some r => some r
              | none => match vgrow P o S its with
                | some r => some r
                | none => match vclear P o S its with
                  | some r => some r
                  | none => match vbytes P o S its with
                    | some r => some r
                    | none => vmap P o S its
def vwant (ops : Array Oper) (o : Oper) (G : List V) (its : List It) : Option (Bool × List It × List Prop) :=
  match o.guard with
  | none => some (true, its, [])
  | some (j, want) => match (ops[j]?).bind (·.dst) with
    | some t => match G[t]?, its with
      | some (.sc (.bool b)), .bit g :: its' => some (g == want, its', [b = g])
      | some (.tup _), its' => some (false, its', [])
      | _, _ => none
    | none => none
def isMove : List It → Bool
  | .call ms _ _ :: _ => !(ms.all (· == false))
  | .bit _ :: .call ms _ _ :: _ => !(ms.all (· == false))
  | _ => false
/-- Is it a call that is given memory? -/
def isMoveO (o : Oper) (it : List It) : Bool := match o.op with
  | .call _ => isMove it
  | _ => false
/-- One operation more. -/
def vstep (P : Program) (ops : Array Oper) (o : Oper) (S : St) (it : List It) : Option (St × List It × List Prop) :=
  match vwant ops o S.G it with
  | none => none
  | some (false, it1, p1) => some ({ S with G := putV S.G o.dst (.tup []) }, it1, p1)
  | some (true, it1, p1) => match vop P o S it1 with
    | some (S1, it2, p2) => match vadj P it2 S1 with
      | (S2, it3, p3) => some (S2, it3, p1 ++ (p2 ++ p3))
    | none => match it1 with
      | .call ms res outs :: it2 => match vcallee P o S ms with
        | some (g, args, kp, H', ss) => match vadj P it2 (putCall S o.dst (giveBack H' ss outs) res) with
          | (S2, it3, p3) => some (S2, it3, p1 ++ (Fn P g args res outs :: ((kp || (res.nv && nvL outs)) = true) :: p3))
        | none => none
      | _ => none
def vgo (P : Program) (ops : Array Oper) : List Oper → St → List It → Option (St × List It × List Prop)
  | [], S, it => some (S, it, [])
  | o :: rest, S, it => match vstep P ops o S it with
    | some (S1, it1, p1) => match vgo P ops rest S1 it1 with
      | some (S2, it2, p2) => some (S2, it2, p1 ++ p2)
      | none => none
    | none => none
section
variable {P : Program} {S S' S1 S2 : St} {x : X}
theorem vop_ok {o : Oper} {its its' : List It} {p : List Prop} (h : vop P o S its = some (S', its', p)) (hp : conj p) : OpOk P o S S' := by
  unfold vop at h
  split at h
  · rename_i v its2 p2 hv
    simp only [Option.some.injEq, Prod.mk.injEq] at h
    obtain ⟨rfl, _, rfl⟩ := h
    intro I C a w ⟨R, F, hI⟩
    obtain ⟨u, hr, hrel⟩ := vn_sound (P := P) (R := R) (N := S.H.length) (I := I) (w := w) (fun x => hI.ev x) hv hp
    exact ⟨_, u, w, hr w (.refl w), .inl rfl, fun _ => .refl w, fun _ => ⟨rfl, rfl, hr⟩, .of (hI.put o.dst hrel)⟩
  · split at h
    · rename_i r hv
      simp only [Option.some.injEq, Prod.mk.injEq] at h
      obtain ⟨rfl, _, _⟩ := h
      exact vbox_sound hv
    · split at h
      · rename_i r hv
        obtain rfl := Option.some.inj h
        exact vread_sound hv hp
      · split at h
        · rename_i r hv
          obtain rfl := Option.some.inj h
          exact vmake_sound hv hp
        · split at h
          · rename_i r hv
            obtain rfl := Option.some.inj h
            exact vstore_sound hv hp
          · split at h
            · rename_i v hv
              simp only [Option.some.injEq, Prod.mk.injEq] at h
              obtain ⟨rfl, _, _⟩ := h
              exact vbuild_sound hv
            · split at h
              · rename_i r hv
                obtain rfl := Option.some.inj h
                exact vconv_sound hv hp
              · split at h
                · rename_i r hv
                  obtain rfl := Option.some.inj h
                  exact vgrow_sound hv hp
                · split at h
                  · rename_i r hv
                    obtain rfl := Option.some.inj h
                    exact vclear_sound hv
                  · split at h
                    · rename_i r hv
                      obtain rfl := Option.some.inj h
                      exact vbytes_sound hv hp
                    · exact vmap_sound h
theorem OpOk.step {o : Oper} (h : OpOk P o S S') {I : Nat → Prop} {C : Ctx} {a : Act} {w : World} (hI : InvE P I C S a w) {K : Act → World → Prop} {Q : Exit → Act → World → Prop} (hK : ∀ a' w', InvE P I C S' a' w' → (growsX o S = true → Grow w w') → K a' w') : o.wp P a w K Q := by
  obtain ⟨nx, u, w', hr, hn, hg, _, hI'⟩ := h I C a w hI
  unfold Oper.wp
  rw [hr]
  rcases hn with rfl | ⟨rfl, rfl⟩
  · exact hK _ _ hI' hg
  · exact hK _ _ hI' hg
theorem vwant_sound {ops : Array Oper} {o : Oper} {b : Bool} {its its' : List It} {p : List Prop} (h : vwant ops o S.G its = some (b, its', p)) (hp : conj p) {I : Nat → Prop} {C : Ctx} {w : World} {a : Act} (hI : InvE P I C S a w) : Region.wanted o (yielded ops a.tmps) = b := by
  obtain ⟨R, F, hI⟩ := hI
  unfold vwant at h
  split at h
  · rename_i hg
    simp only [Option.some.injEq, Prod.mk.injEq] at h
    obtain ⟨rfl, _, _⟩ := h
    simp [Region.wanted, hg]
  · rename_i j want hg
    split at h
    · rename_i t ht
      split at h
      · rename_i c g its2 hc
        simp only [Option.some.injEq, Prod.mk.injEq] at h
        obtain ⟨rfl, _, rfl⟩ := h
        have hp : c = g := hp
        subst hp
        have hs := hI.slot t _ hc
        have hu : a.tmps.getD t undef = .bool c := hs.sc_eq
        have htl : t < a.tmps.size := by rw [← hI.len]; exact (List.getElem?_eq_some_iff.1 hc).1
        have hu' : a.tmps[t]? = some (.bool c) := by
          rw [Array.getElem?_eq_getElem htl]
          rw [Array.getD_eq_getD_getElem?, Array.getElem?_eq_getElem htl] at hu
          simpa using hu
        simp [Region.wanted, hg, yielded, ht, hu']
      · rename_i ar hc
        simp only [Option.some.injEq, Prod.mk.injEq] at h
        obtain ⟨rfl, _, rfl⟩ := h
        obtain ⟨us, hu, _⟩ := (hI.slot t _ hc).tup_inv
        have htl : t < a.tmps.size := by rw [← hI.len]; exact (List.getElem?_eq_some_iff.1 hc).1
        have hu' : a.tmps[t]? = some (.tuple us.toArray) := by
          rw [Array.getElem?_eq_getElem htl]
          rw [Array.getD_eq_getD_getElem?, Array.getElem?_eq_getElem htl] at hu
          simpa using hu
        simp [Region.wanted, hg, yielded, ht, hu']
      · simp at h
    · simp at h
theorem vwant_it {ops : Array Oper} {o : Oper} {G : List V} {b : Bool} {its its' : List It} {p : List Prop} (h : vwant ops o G its = some (b, its', p)) : its = its' ∨ ∃ g, its = .bit g :: its' := by
  unfold vwant at h
  split at h
  · simp only [Option.some.injEq, Prod.mk.injEq] at h
    exact .inl h.2.1
  · split at h
    · split at h
      · simp only [Option.some.injEq, Prod.mk.injEq] at h
        obtain ⟨_, rfl, _⟩ := h
        exact .inr ⟨_, rfl⟩
      · simp only [Option.some.injEq, Prod.mk.injEq] at h
        exact .inl h.2.1
      · simp at h
    · simp at h
/-- One operation more: whatever comes then. -/
theorem vstep_sound {ops : Array Oper} {o : Oper} {it it' : List It} {p : List Prop} (h : vstep P ops o S it = some (S', it', p)) (hp : conj p) {I : Nat → Prop} {C : Ctx} {a : Act} {w : World} (hI : InvE P I C S a w) {K : Act → World → Prop} {Q : Exit → Act → World → Prop}
    (hK : ∀ a' w', InvE P I C S' a' w' → (growsX o S = true → isMoveO o it = false → Grow w w') → K a' w') : if Region.wanted o (yielded ops a.tmps) = true then o.wp P a w K Q else K (a.put o.dst undef) w := by
  unfold vstep at h
  split at h
  · simp at h
  · rename_i it3 p3 hw
    simp only [Option.some.injEq, Prod.mk.injEq] at h
    obtain ⟨rfl, _, rfl⟩ := h
    rw [if_neg (by rw [vwant_sound hw hp hI]; simp)]
    obtain ⟨R, F, hI⟩ := hI
    exact hK _ _ (.of (hI.put o.dst (Rel.tup_mk .nil))) (fun _ _ => .refl w)
  · rename_i it3 p3 hw
    split at h
    · rename_i G3 it4 p4 ho
      split at h
      rename_i S5 it5 p5 ha
      simp only [Option.some.injEq, Prod.mk.injEq] at h
      obtain ⟨rfl, _, rfl⟩ := h
      obtain ⟨q1, q2⟩ := conj_append hp
      obtain ⟨q2, q3⟩ := conj_append q2
      rw [if_pos (vwant_sound hw q1 hI)]
      exact (vop_ok ho q2).step hI (fun a' w' h1 h2 => hK a' w' (vadj_sound _ _ ha q3 h1) (fun h3 _ => h2 h3))
    · split at h
      · rename_i ms res outs it4 _
        split at h
        · rename_i g args kp H' ss hc
          split at h
          rename_i S5 it5 p5 ha
          simp only [Option.some.injEq, Prod.mk.injEq] at h
          obtain ⟨rfl, _, rfl⟩ := h
          obtain ⟨q1, q2⟩ := conj_append hp
          obtain ⟨hf, q3⟩ := conj_cons q2
          obtain ⟨hkp, q4⟩ := conj_cons q3
          rw [if_pos (vwant_sound hw q1 hI)]
          have hmv : isMoveO o it = !(ms.all (· == false)) := by
            have hop : isMoveO o it = isMove it := by
              unfold vcallee at hc
              split at hc
              · rename_i c hop
                simp [isMoveO, hop]
              · simp at hc
            rw [hop]
            rcases vwant_it hw with rfl | ⟨b, rfl⟩ <;> rfl
          exact call_sound hc hf hkp hI (fun a' w' h1 h2 => hK a' w' (vadj_sound _ _ ha q4 h1) (fun _ h3 => h2 (by rw [hmv] at h3; simpa using h3)))
        · simp at h
      · simp at h
/-- An operation that only looks yields the same in all worlds that have what lay there. -/
theorem vstep_float {ops : Array Oper} {o : Oper} {it it' : List It} {p : List Prop} (hfl : floats P o = true) (h : vstep P ops o S it = some (S', it', p)) (hp : conj p) {I : Nat → Prop} {C : Ctx} {a : Act} {w : World} (hI : InvE P I C S a w) :
    ∃ v, YieldsIf P ops (Grow w) o v a ∧ InvE P I C S' (a.put o.dst v) w := by
  unfold vstep at h
  split at h
  · simp at h
  · rename_i it3 p3 hw
    simp only [Option.some.injEq, Prod.mk.injEq] at h
    obtain ⟨rfl, _, rfl⟩ := h
    have hwt := vwant_sound hw hp hI
    obtain ⟨R, F, hI'⟩ := hI
    exact ⟨undef, .inr ⟨hwt, rfl⟩, .of (hI'.put o.dst (Rel.tup_mk .nil))⟩
  · rename_i it3 p3 hw
    split at h
    · rename_i G3 it4 p4 ho
      split at h
      rename_i S5 it5 p5 ha
      simp only [Option.some.injEq, Prod.mk.injEq] at h
      obtain ⟨rfl, _, rfl⟩ := h
      obtain ⟨q1, q2⟩ := conj_append hp
      obtain ⟨q2, q3⟩ := conj_append q2
      obtain ⟨nx, u, w', hr, hn, hg, hf, hI'⟩ := vop_ok ho q2 I C a w hI
      obtain ⟨rfl, rfl, hw2⟩ := hf hfl
      exact ⟨u, .inl ⟨vwant_sound hw q1 hI, fun w2 h2 => hw2 w2 h2.2⟩, vadj_sound _ _ ha q3 hI'⟩
    · exfalso
      split at h
      · split at h
        · rename_i g args kp H' ss hc
          unfold vcallee at hc
          split at hc
          · rename_i c hop
            split at hc
            · rename_i f hcal
              simp [floats, hop, hcal] at hfl
            · simp at hc
          · simp at hc
        · simp at h
      · simp at h
theorem vgo_sound {ops : Array Oper} : ∀ (l : List Oper) (G G' : St) (it it' : List It) (p : List Prop), vgo P ops l G it = some (G', it', p) → conj p →
    ∀ (I : Nat → Prop) (C : Ctx) (a : Act) (w : World), InvE P I C G a w → ∀ Q : Exit → Act → World → Prop, (∀ a' w', InvE P I C G' a' w' → Q .normal a' w') → wpList P ops Q l a w
  | [], G, G', it, it', p, h, _, I, C, a, w, hI, Q, hQ => by
    simp only [vgo, Option.some.injEq, Prod.mk.injEq] at h
    obtain ⟨rfl, _, _⟩ := h
    exact hQ a w hI
  | o :: rest, G, G', it, it', p, h, hp, I, C, a, w, hI, Q, hQ => by
    refine wpList_step fun K hK => ?_
    unfold vgo at h
    split at h
    · rename_i G1 it1 p1 hs
      split at h
      · rename_i G2 it2 p2 hr
        simp only [Option.some.injEq, Prod.mk.injEq] at h
        obtain ⟨rfl, rfl, rfl⟩ := h
        obtain ⟨hp1, hp2⟩ := conj_append hp
        exact vstep_sound hs hp1 hI (fun a' w' hI' _ => hK _ _ (vgo_sound rest G1 _ it1 _ p2 hr hp2 I C a' w' hI' Q hQ))
      · simp at h
    · simp at h
end
section
variable {P : Program} {ops : Array Oper} {Q : Exit → Act → World → Prop} {md : Region.Mode} {ds : List Nat}
/-- Operation d waits for operation i, by a chain of at most so many edges. -/
def reachB (md : Region.Mode) (ops : Array Oper) (i : Nat) : Nat → Nat → Bool
  | 0, _ => false
  | fuel + 1, d => match ops[d]? with
    | some o => o.after.toList.any fun e => Region.binds md e && (e.on == i || reachB md ops i fuel e.on)
    | none => false
/-- Each of ds that has not come up yet waits for number i. -/
def lastB (md : Region.Mode) (ops : Array Oper) (listed : Array Bool) (ds : List Nat) (i : Nat) : Bool :=
  ds.all fun d => listed.getD d true || reachB md ops i ops.size d
def Closed (md : Region.Mode) (ops : Array Oper) (listed : Array Bool) : Prop :=
  ∀ j oj, ops[j]? = some oj → listed.getD j false = true → ∀ e ∈ oj.after, Region.binds md e = true → listed.getD e.on false = true
theorem Closed.set {listed : Array Bool} {i : Nat} (h : Closed md ops listed) (hi : i ∈ Region.ready md ops listed) : Closed md ops (listed.setIfInBounds i true) := by
  obtain ⟨_, oi, hoi, hall⟩ := mem_ready.1 hi
  intro j oj hj hl e he hb
  by_cases hij : i = j
  · subst hij
    have : oj = oi := Option.some.inj (hj.symm.trans hoi)
    subst this
    exact getD_set_true (hall e he hb)
  · rw [getD_set_ne false hij] at hl
    exact getD_set_true (h j oj hj hl e he hb)
theorem reach_listed {listed : Array Bool} {i : Nat} (hc : Closed md ops listed) : ∀ (fuel d : Nat), reachB md ops i fuel d = true → listed.getD d false = true → listed.getD i false = true
  | 0, _, h, _ => by simp [reachB] at h
  | fuel + 1, d, h, hl => by
    unfold reachB at h
    cases ho : ops[d]? with
    | none => rw [ho] at h; simp at h
    | some o =>
      rw [ho] at h
      obtain ⟨e, he, h1⟩ := List.any_eq_true.1 h
      simp only [Bool.and_eq_true, Bool.or_eq_true, beq_iff_eq] at h1
      have hle := hc d o ho hl e (by simpa using he) h1.1
      rcases h1.2 with h2 | h2
      · rw [← h2]; exact hle
      · exact reach_listed hc fuel e.on h2 hle
/-- What waits for i cannot come up before i is listed. -/
theorem reach_not_ready {listed : Array Bool} {i d fuel : Nat} (hc : Closed md ops listed) (hr : reachB md ops i fuel d = true) (hun : listed.getD i true = false) : d ∉ Region.ready md ops listed := by
  intro hd
  obtain ⟨_, o, ho, hall⟩ := mem_ready.1 hd
  have hi : listed.getD i false = true := by
    cases fuel with
    | zero => simp [reachB] at hr
    | succ n =>
      unfold reachB at hr
      rw [ho] at hr
      obtain ⟨e, he, h1⟩ := List.any_eq_true.1 hr
      simp only [Bool.and_eq_true, Bool.or_eq_true, beq_iff_eq] at h1
      have hle := hall e (by simpa using he) h1.1
      rcases h1.2 with h2 | h2
      · rw [← h2]; exact hle
      · exact reach_listed hc n e.on h2 hle
  rcases Nat.lt_or_ge i listed.size with h' | h'
  · simp [h'] at hun hi
    rw [hun] at hi
    cases hi
  · simp [Array.getElem?_eq_none h'] at hun
/-- Whatever order is picked from here on; what is carried out leaves what lay there, those of ds apart. -/
def wpAnyG (P : Program) (md : Region.Mode) (ops : Array Oper) (Q : Exit → Act → World → Prop) (ds : List Nat) : Nat → Array Bool → Act → World → Prop
  | 0, listed, a, w => Region.ready md ops listed = [] ∧ Q .normal a w
  | fuel + 1, listed, a, w =>
    (Region.ready md ops listed = [] → Q .normal a w) ∧
    ∀ i ∈ Region.ready md ops listed, wpOp P ops Q i (fun a' w' => (i ∉ ds → Grow w w') ∧ wpAnyG P md ops Q ds fuel (listed.setIfInBounds i true) a' w') a w
theorem wpAny_of_G : ∀ (fuel : Nat) (listed : Array Bool) (a : Act) (w : World), wpAnyG P md ops Q ds fuel listed a w → wpAny P md ops Q fuel listed a w
  | 0, _, _, _, h => h
  | fuel + 1, _, _, _, h => ⟨h.1, fun i hi => wpOp_mono (fun a' w' h' => wpAny_of_G fuel _ a' w' h'.2) (h.2 i hi)⟩
theorem wpAnyG_first {i : Nat} {oi : Oper} {v : Value} {w0 : World} (hi : ops[i]? = some oi) (hsel : ∀ (j : Nat) (o : Oper) cs b, ops[j]? = some o → o.op ≠ .select cs b)
    (hQ : ∀ c a w, Q (.panic c) (a.put oi.dst v) w → Q (.panic c) a w) (n : Nat) :
    ∀ (fuel : Nat) (listed : Array Bool) (a : Act) (w : World),
      (∀ j oj, ops[j]? = some oj → j ≠ i → listed.getD j true = false → (∀ e ∈ oj.after, Region.binds md e = true → e.on ≠ i) → oi.apart ops oj = true) →
      Closed md ops listed → (∀ d ∈ ds, listed.getD d true = false → reachB md ops i n d = true) →
      i ∈ Region.ready md ops listed → YieldsIf P ops (Grow w0) oi v a → Grow w0 w →
      wpAnyG P md ops Q ds fuel (listed.setIfInBounds i true) (a.put oi.dst v) w → wpAnyG P md ops Q ds (fuel + 1) listed a w := by
  intro fuel
  induction fuel with
  | zero =>
    intro listed a w _ _ _ hr hy hS H
    refine ⟨fun h => (by rw [h] at hr; cases hr), fun j hj => ?_⟩
    by_cases hji : j = i
    · subst hji; exact hy.wpOp hi hS ⟨fun _ => .refl w, H⟩
    · have := ready_mono hj hji
      rw [H.1] at this
      cases this
  | succ fuel ih =>
    intro listed a w hfree hc hd hr hy hS H
    refine ⟨fun h => (by rw [h] at hr; cases hr), fun j hj => ?_⟩
    by_cases hji : j = i
    · subst hji; exact hy.wpOp hi hS ⟨fun _ => .refl w, H⟩
    · have h1 := H.2 j (ready_mono hj hji)
      obtain ⟨hjun, oj, hoj, hall⟩ := mem_ready.1 hj
      have hiun := (mem_ready.1 hr).1
      have hnot : ∀ e ∈ oj.after, Region.binds md e = true → e.on ≠ i := fun e he hb heq => by
        have h1 := hall e he hb
        rw [heq] at h1
        rcases Nat.lt_or_ge i listed.size with h' | h'
        · simp [h'] at hiun h1; rw [hiun] at h1; cases h1
        · simp [Array.getElem?_eq_none h'] at h1
      have hjd : j ∉ ds := fun hm => reach_not_ready hc (hd j hm hjun) hiun hj
      have h2 := wpOp_putIf hoj (hfree j oj hoj hji hjun hnot) (fun cs b => hsel i oi cs b hi) (fun cs b => hsel j oj cs b hoj) hQ hy h1
      have hfree' : ∀ k ok, ops[k]? = some ok → k ≠ i → (listed.setIfInBounds j true).getD k true = false →
          (∀ e ∈ ok.after, Region.binds md e = true → e.on ≠ i) → oi.apart ops ok = true := fun k ok hk hki hun hno => by
        refine hfree k ok hk hki ?_ hno
        by_cases hjk : j = k
        · subst hjk; exact hjun
        · rw [getD_set_ne true hjk] at hun; exact hun
      have hd' : ∀ d ∈ ds, (listed.setIfInBounds j true).getD d true = false → reachB md ops i n d = true := fun d hm hun => by
        refine hd d hm ?_
        by_cases hjk : j = d
        · subst hjk; exact hjun
        · rw [getD_set_ne true hjk] at hun; exact hun
      refine wpOp_mono (fun a' w' h3 => ⟨h3.2.1, ih (listed.setIfInBounds j true) a' w' hfree' (hc.set hj) hd' (ready_mono hr (Ne.symm hji)) h3.1 (Same.grow hS (h3.2.1 hjd)) ?_⟩) h2
      rw [Array.setIfInBounds_comm _ _ hji]
      exact h3.2.2
/-- May it be taken first? -/
def okFloat (P : Program) (ops : Array Oper) (ds : List Nat) (listed : Array Bool) (i : Nat) : Bool :=
  match ops[i]? with
  | some o => floats P o && (Region.free .any ops listed i && lastB .any ops listed ds i)
  | none => false
/-- All that may come next is tried, each from here to the region's end: one state S' lies there. -/
def vbr (P : Program) (ops : Array Oper) (ds : List Nat) (listed : Array Bool) (G S' : St) (run : Array Bool → St → List It → Option (St × List It × List Prop)) : List Nat → List It → List Prop → Option (List It × List Prop)
  | [], it, ps => some (it, ps)
  | j :: js, it, ps => match ops[j]? with
    | some o => match (growsX o G && !isMoveO o it) || ds.contains j with
      | true => match vstep P ops o G it with
        | some (G1, it3, p1) => match run (listed.setIfInBounds j true) G1 it3 with
          | some (G2, it4, p2) => vbr P ops ds listed G S' run js it4 (ps ++ (p1 ++ (p2 ++ [G2 = S'])))
          | none => none
        | none => none
      | false => none
    | none => none
/-- The region, run: what only looks comes first; else what comes up must come up alone, or each way is told. -/
def vdraw (P : Program) (ops : Array Oper) (ds : List Nat) : Nat → Array Bool → St → List It → Option (St × List It × List Prop)
  | 0, listed, G, it => match Region.ready .any ops listed with
    | [] => some (G, it, [])
    | _ => none
  | fuel + 1, listed, G, it => match Region.ready .any ops listed with
    | [] => some (G, it, [])
    | r :: rs => match (r :: rs).find? (okFloat P ops ds listed) with
      | some i => match ops[i]? with
        | some o => match vstep P ops o G it with
          | some (G1, it1, p1) => match vdraw P ops ds fuel (listed.setIfInBounds i true) G1 it1 with
            | some (G2, it2, p2) => some (G2, it2, p1 ++ p2)
            | none => none
          | none => none
        | none => none
      | none => match rs, ops[r]? with
        | [], some o => match (growsX o G && !isMoveO o it) || ds.contains r with
          | true => match vstep P ops o G it with
            | some (G1, it1, p1) => match vdraw P ops ds fuel (listed.setIfInBounds r true) G1 it1 with
              | some (G2, it2, p2) => some (G2, it2, p1 ++ p2)
              | none => none
            | none => none
          | false => none
        | _, _ => match it with
          | .loop .go S' :: it1 => match vbr P ops ds listed G S' (fun l g i => vdraw P ops ds fuel l g i) (r :: rs) it1 [] with
            | some (it5, ps) => some (S', it5, ps)
            | none => none
          | _ => none
theorem vbr_spec {S' : St} {listed : Array Bool} {G : St} {run : Array Bool → St → List It → Option (St × List It × List Prop)} : ∀ (js : List Nat) (it : List It) (ps : List Prop) (it' : List It) (ps' : List Prop), vbr P ops ds listed G S' run js it ps = some (it', ps') → conj ps' →
    conj ps ∧ ∀ j ∈ js, ∃ o itj G1 it3 p1 it4 p2, ops[j]? = some o ∧ ((growsX o G && !isMoveO o itj) || ds.contains j) = true ∧ vstep P ops o G itj = some (G1, it3, p1) ∧ run (listed.setIfInBounds j true) G1 it3 = some (S', it4, p2) ∧ conj p1 ∧ conj p2
  | [], it, ps, it', ps', h, hp => by
    simp only [vbr, Option.some.injEq, Prod.mk.injEq] at h
    obtain ⟨_, rfl⟩ := h
    exact ⟨hp, fun j hj => by cases hj⟩
  | j :: js, it, ps, it', ps', h, hp => by
    unfold vbr at h
    split at h
    · rename_i o ho
      split at h
      · rename_i hg
        split at h
        · rename_i G1 it3 p1 hs
          split at h
          · rename_i G2 it4 p2 hv
            obtain ⟨h1, h2⟩ := vbr_spec js it4 _ it' ps' h hp
            obtain ⟨h3, h4⟩ := conj_append h1
            obtain ⟨h5, h6⟩ := conj_append h4
            obtain ⟨h7, h8⟩ := conj_append h6
            have h8 : G2 = S' := h8
            subst h8
            refine ⟨h3, fun k hk => ?_⟩
            rcases List.mem_cons.1 hk with rfl | hk
            · exact ⟨o, it, G1, it3, p1, it4, p2, ho, hg, hs, hv, h5, h7⟩
            · exact h2 k hk
          · simp at h
        · simp at h
      · simp at h
    · simp at h
theorem vdraw_sound (hsel : ∀ (j : Nat) (o : Oper) cs b, ops[j]? = some o → o.op ≠ .select cs b) (hQ : ∀ c a w, ¬ Q (.panic c) a w) : ∀ (fuel : Nat) (listed : Array Bool) (G G' : St) (it it' : List It) (p : List Prop), vdraw P ops ds fuel listed G it = some (G', it', p) → conj p → Closed .any ops listed →
    ∀ (I : Nat → Prop) (C : Ctx) (a : Act) (w : World), InvE P I C G a w → (∀ a' w', InvE P I C G' a' w' → Q .normal a' w') → wpAnyG P .any ops Q ds fuel listed a w
  | 0, listed, G, G', it, it', p, h, _, _, I, C, a, w, hI, hK => by
    unfold vdraw at h
    split at h
    · rename_i hr
      simp only [Option.some.injEq, Prod.mk.injEq] at h
      obtain ⟨rfl, _, _⟩ := h
      exact ⟨hr, hK a w hI⟩
    · simp at h
  | fuel + 1, listed, G, G', it, it', p, h, hp, hc, I, C, a, w, hI, hK => by
    unfold vdraw at h
    split at h
    · rename_i hr
      simp only [Option.some.injEq, Prod.mk.injEq] at h
      obtain ⟨rfl, _, _⟩ := h
      exact ⟨fun _ => hK a w hI, fun i hi => by rw [hr] at hi; simp at hi⟩
    · rename_i r rs hr
      split at h
      · rename_i i hfi
        have hmem : i ∈ Region.ready .any ops listed := by rw [hr]; exact List.mem_of_find?_eq_some hfi
        have hok := List.find?_some hfi
        split at h
        · rename_i o ho
          simp only [okFloat, ho, Bool.and_eq_true] at hok
          obtain ⟨hfl, hfree, hlast⟩ := hok
          split at h
          · rename_i G1 it1 p1 hs
            split at h
            · rename_i G2 it2 p2 hv
              simp only [Option.some.injEq, Prod.mk.injEq] at h
              obtain ⟨rfl, rfl, rfl⟩ := h
              obtain ⟨hp1, hp2⟩ := conj_append hp
              obtain ⟨v, hy, hI1⟩ := vstep_float hfl hs hp1 hI
              refine wpAnyG_first ho hsel (fun c a w hq => absurd hq (hQ _ _ _)) ops.size fuel listed a w (Region.free_spec ho hfree) hc (fun d hd hun => ?_) hmem hy (.refl w) (vdraw_sound hsel hQ fuel _ G1 _ it1 _ p2 hv hp2 (hc.set hmem) I C _ w hI1 hK)
              have := List.all_eq_true.1 hlast d hd
              simpa [hun] using this
            · simp at h
          · simp at h
        · simp at h
      · split at h
        · rename_i o ho _
          split at h
          · rename_i hg
            split at h
            · rename_i G1 it1 p1 hs
              split at h
              · rename_i G2 it2 p2 hv
                simp only [Option.some.injEq, Prod.mk.injEq] at h
                obtain ⟨rfl, rfl, rfl⟩ := h
                obtain ⟨hp1, hp2⟩ := conj_append hp
                refine ⟨fun h0 => (by rw [hr] at h0; cases h0), fun j hj => ?_⟩
                have hj' := hj
                rw [hr] at hj'
                simp only [List.mem_singleton] at hj'
                subst hj'
                unfold wpOp
                simp only [ho]
                have key := vstep_sound hs hp1 hI (Q := Q) (K := fun a' w' => (j ∉ ds → Grow w w') ∧ wpAnyG P .any ops Q ds fuel (listed.setIfInBounds j true) a' w') (fun a' w' hI' hgr => ⟨fun hnd => have hg2 : growsX o G = true ∧ isMoveO o it = false := (by simpa [hnd] using hg); hgr hg2.1 hg2.2, vdraw_sound hsel hQ fuel _ G1 _ it1 _ p2 hv hp2 (hc.set hj) I C a' w' hI' hK⟩)
                split
                · rename_i hw
                  rw [if_pos hw] at key
                  exact .inl key
                · rename_i hw
                  rw [if_neg hw] at key
                  exact key
              · simp at h
            · simp at h
          · simp at h
        · split at h
          · rename_i S' it1
            split at h
            · rename_i it5 ps hb
              simp only [Option.some.injEq, Prod.mk.injEq] at h
              obtain ⟨rfl, rfl, rfl⟩ := h
              obtain ⟨_, hall⟩ := vbr_spec _ _ _ _ _ hb hp
              refine ⟨fun h0 => (by rw [hr] at h0; cases h0), fun j hj => ?_⟩
              have hj' := hj
              rw [hr] at hj'
              obtain ⟨o, itj, G1, it3, p1, it4, p2, ho, hg, hs, hv, hp1, hp2⟩ := hall j hj'
              unfold wpOp
              simp only [ho]
              have key := vstep_sound hs hp1 hI (Q := Q) (K := fun a' w' => (j ∉ ds → Grow w w') ∧ wpAnyG P .any ops Q ds fuel (listed.setIfInBounds j true) a' w') (fun a' w' hI' hgr => ⟨fun hnd => have hg2 : growsX o G = true ∧ isMoveO o itj = false := (by simpa [hnd] using hg); hgr hg2.1 hg2.2, vdraw_sound hsel hQ fuel _ G1 _ it3 _ p2 hv hp2 (hc.set hj) I C a' w' hI' hK⟩)
              split
              · rename_i hw
                rw [if_pos hw] at key
                exact .inl key
              · rename_i hw
                rw [if_neg hw] at key
                exact key
            · simp at h
          · simp at h
end
end Go.Proofs.YtdahdpnkppknfaaGreatDoorM
