/- A test whether a slice is nil; a nil slice told as one of no elements. No condition. -/
import Derived.Test.YtdahdpnkppknfaaGreatDoorM17
namespace Go.Proofs.YtdahdpnkppknfaaGreatDoorM
set_option linter.unusedVariables false
set_option linter.unusedSimpArgs false
open Go.RowKit

def noneB : List V → Bool
  | [] => true
  | _ :: _ => false
/-- The operation asks whether a slice, of which that is not told, is nil: the answer's slot; whether it may be. -/
def nilTest (P : Program) (o : Oper) (S : St) : Option (Nat × Bool) :=
  match o.op, o.dst, o.guard with
  | .binOp .eql t x y _, some d, none => match ev S.G x, ev S.G y, velem P t with
    | .sl false _ els, .sc (.slice none 0 0), some _ => some (d, noneB els)
    | _, _, _ => none
  | _, _, _ => none
def vpre (P : Program) (f : Nat) (args : List (Bool × V)) (i1 : List It) : Option (Func × Code × Code × Nat × Bool × St × List Prop × Nat) :=
  match enters P f, P.funcs[f]? with
  | true, some fn => match fn.body with
    | some (.seq A (.seq (.seq (.region _ ops false) D) E)) => match argsOpen 0 args with
      | (vs, bs, ls) => match vexec P A ⟨vs ++ List.replicate (fn.ntmps - args.length) .un, bs, ls.map some⟩ i1 with
        | some (.go, S1, [], p1) => match ops.toList with
          | [o1, o2] => match vstep P ops o1 S1 [] with
            | some (S2, [], p2) => match nilTest P o2 S2 with
              | some (d, e) => some (fn, D, E, d, e, S2, p1 ++ p2, ls.length)
              | none => none
            | _ => none
          | _ => none
        | _ => none
    | _ => none
  | _, _ => none
def vfin (P : Program) (fn : Func) (n : Nat) (x : X) (S : St) (p : List Prop) : Option (List Prop × V × List V) :=
  match x.ends, vres P fn S with
  | true, some (r, H1) => some (p, r, outsOf P H1 S.gv n)
  | _, _ => none
def vpost (P : Program) (fn : Func) (D E : Code) (S : St) (n : Nat) (its : List It) : Option (List Prop × V × List V) :=
  match vexec P D S its with
  | some (.go, S3, i3, p3) => match vexec P E S3 i3 with
    | some (x, S4, [], p4) => vfin P fn n x S4 (p3 ++ p4)
    | _ => none
  | some (x, S3, [], p3) => vfin P fn n x S3 p3
  | _ => none
/-- What the two runs of function f have to show; what each hands back. -/
def vtwo (P : Program) (f : Nat) (args : List (Bool × V)) (i1 iT iF : List It) : Option (List Prop × (List Prop × V × List V) × List Prop × V × List V) :=
  match vpre P f args i1 with
  | some (fn, D, E, d, e, S2, p0, n) => match vpost P fn D E { S2 with G := S2.G.set d (.sc (.bool false)) } n iF with
    | some b => match e with
      | false => some (p0, b, b)
      | true => match vpost P fn D E { S2 with G := S2.G.set d (.sc (.bool true)) } n iT with
        | some a => some (p0, a, b)
        | none => none
    | none => none
  | none => none
section
variable {P : Program} {R R' : Nat → Value} {N N' : Nat} {I I' : Nat → Prop} {w w' : World} {C : Ctx} {S S' : St} {a : Act} {F F' : Nat → List Nat} {t : Bool} {v v' : V} {u : Value} {f : List Nat} {sz : Nat}
theorem run_eq_nil {t e : Nat} {A : Option Addr} {L c : Nat} (w : World) (x y : Operand) (hu : P.underlying t = some (.slice e)) :
    (do eqGuard .eql t x y (.slice A L c) (.slice none 0 0); binOp .eql t (.slice A L c) (.slice none 0 0) : Sem Value).run P w = .ok (.bool A.isNone) w := by
  have hg : (eqGuard .eql t x y (.slice A L c) (.slice none 0 0)).run P w = .ok () w :=
    run_eqGuard_plain w .eql t x y _ _ (fun cs e => by cases e) (fun e => by cases e)
  rw [Sem.run_bind, hg, Result.andThen_ok]
  have he : (Op.equal t (.slice A L c) (.slice none 0 0)).run P w = .ok A.isNone w := by
    show (Op.equalIn (9999 + 1) t _ _).run P w = _
    unfold Op.equalIn
    cases A <;> simp [run_underlying hu]
  simp only [binOp, Sem.run_bind, he, Result.andThen_ok, Sem.run_pure]
theorem nilTest_sound {o : Oper} {d : Nat} {e : Bool} (hI : InvE P I C S a w) (h : nilTest P o S = some (d, e)) :
    o.guard = none ∧ ∃ b, (b = true → e = true) ∧ (execOp a.eval o).run P w = .ok (.value (.bool b)) w ∧ InvE P I C { S with G := S.G.set d (.sc (.bool b)) } (a.put o.dst (.bool b)) w := by
  obtain ⟨R, F, hI⟩ := hI
  unfold nilTest at h
  split at h
  · rename_i t x y ty d' hop hd hg
    split at h
    · rename_i e els e' hx hy hv
      simp only [Option.some.injEq, Prod.mk.injEq] at h
      obtain ⟨rfl, rfl⟩ := h
      have h1 := hI.ev x
      rw [hx] at h1
      have h2 := hI.ev y
      rw [hy] at h2
      have h2 := h2.sc_eq
      have hu := velem_spec hv
      have h3 := (h1.vw_leaf rfl).1
      generalize hux : a.eval x = ux at h3
      cases h3 with
      | sl _ _ _ A cap sz uss hs hz hl hm hn =>
        refine ⟨hg, A.isNone, fun hb => ?_, ?_, ?_⟩
        · cases A with
          | none => rw [hn rfl]; rfl
          | some ad => simp at hb
        · simp only [execOp, hop, hux, h2]
          have := run_eq_nil (P := P) (A := A) (L := els.length) (c := cap) w x y hu
          simp only [Sem.run_bind] at this ⊢
          rw [this]
          rfl
        · have := hI.put (v := .sc (.bool A.isNone)) o.dst (.leaf _ _ (.bool A.isNone) rfl (.sc _ rfl))
          rw [hd] at this ⊢
          exact .of this
    · simp at h
  · simp at h
theorem vpre_sound {fi : Nat} {args : List (Bool × V)} {i1 : List It} {fn : Func} {D E : Code} {d n : Nat} {e : Bool} {S2 : St} {p0 : List Prop} (h : vpre P fi args i1 = some (fn, D, E, d, e, S2, p0, n)) (hp : conj p0) :
    enters P fi = true ∧ P.funcs[fi]? = some fn ∧ ∃ code vs bs ls, fn.body = some code ∧ argsOpen 0 args = (vs, bs, ls) ∧ n = ls.length ∧
      ∀ (I : Nat → Prop) (C : Ctx) (a : Act) (w : World), InvE P I C ⟨vs ++ List.replicate (fn.ntmps - args.length) .un, bs, ls.map some⟩ a w → ∀ Q : Exit → Act → World → Prop,
        (∀ b a' w', (b = true → e = true) → InvE P I C { S2 with G := S2.G.set d (.sc (.bool b)) } a' w' → D.wp P (Exit.then (E.wp P Q) Q) a' w') → code.wp P Q a w := by
  unfold vpre at h
  split at h
  · rename_i fn' hent hf
    split at h
    · rename_i A id ops D' E' hb
      split at h
      rename_i vs bs ls hargs
      split at h
      · rename_i S1 p1 he
        split at h
        · rename_i o1 o2 hops
          split at h
          · rename_i S2' p2 hs
            split at h
            · rename_i d' e' hn
              simp only [Option.some.injEq, Prod.mk.injEq] at h
              obtain ⟨rfl, rfl, rfl, rfl, rfl, rfl, rfl, rfl⟩ := h
              obtain ⟨hp1, hp2⟩ := conj_append hp
              refine ⟨hent, hf, _, vs, bs, ls, hb, hargs, rfl, fun I C a w hI Q hQ => ?_⟩
              refine wp_seq (vexec_sound A _ _ i1 _ .go p1 he hp1 I C a w hI _ (fun a1 w1 hI1 => ?_))
              show (Code.seq _ _).wp P Q a1 w1
              refine wp_seq (wp_seq (wp_region_list ?_))
              rw [hops]
              refine wpList_step fun K hK => vstep_sound hs hp2 hI1 (fun a2 w2 hI2 _ => hK _ _ ?_)
              refine wpList_step fun K2 hK2 => ?_
              obtain ⟨hg, b, hbe, hr, hI3⟩ := nilTest_sound hI2 hn
              rw [if_pos (by simp [Region.wanted, hg])]
              unfold Oper.wp
              rw [hr]
              exact hK2 _ _ (wpList_nil (hQ b _ _ hbe hI3))
            · simp at h
          · simp at h
        · simp at h
      · simp at h
    · simp at h
  · simp at h
/-- A function, out of what its text does with any outcome. -/
theorem Fn.ofEnds {fi : Nat} {args : List (Bool × V)} {res : V} {outs : List V} {fn : Func} {code : Code} {vs : List V} {bs : List Blk} {ls : List Nat} (hent : enters P fi = true) (hf : P.funcs[fi]? = some fn) (hb : fn.body = some code) (hargs : argsOpen 0 args = (vs, bs, ls))
    (H : ∀ (I : Nat → Prop) (C : Ctx) (a : Act) (w : World), InvE P I C ⟨vs ++ List.replicate (fn.ntmps - args.length) .un, bs, ls.map some⟩ a w → ∀ Q : Exit → Act → World → Prop,
      (∀ (x : X) (S2 : St) (H1 : List Blk) a' w', x.ends = true → vres P fn S2 = some (res, H1) → outsOf P H1 S2.gv ls.length = outs → InvE P I C S2 a' w' → Q x.exit a' w') → code.wp P Q a w) : Fn P fi args res outs := by
  refine ⟨hent, fun I w us fa hI hn hfa hA hg => ?_⟩
  refine calls_of_wp hf hb ?_
  obtain ⟨hI0, hlen⟩ := args_inv fn.ntmps hI hn hfa hA hg
  rw [hargs] at hI0 hlen
  refine H I _ _ w hI0 _ (fun x S2 H1 a' w' hx hr ho hI3 => ?_)
  obtain ⟨R, F, hI3⟩ := hI3
  obtain ⟨u, fp, hrun, hrel, F1, hI4, hN4, hn1, hm, hgone⟩ := vres_sound hI3 hr
  obtain ⟨gs, g1, g2, g3⟩ := outsOf_sound S2.gv ls.length (heads args us) { S2 with H := H1 } F1 hI4 hlen (fun j n u hj hu => by
    have := (hI3.orig j n hj).2
    rw [this]
    simp only [ctxOf]
    rw [List.getD_eq_getElem?_getD, hu]
    rfl)
  subst ho
  have key : Rel P I w' (fun _ => undef) 0 false res u fp ∧ RelL P I w' (fun _ => undef) 0 false (outsOf P H1 S2.gv ls.length) ((heads args us).take (outsOf P H1 S2.gv ls.length).length) gs ∧ (fp ++ gs).Nodup ∧ (∀ b, b ∈ fp ++ gs → b ∈ fa ∨ w.heap.size ≤ b) ∧ Kp (fun b => b < w.heap.size ∧ b ∉ fa) w w' := by
    refine ⟨hrel.shut, RelL.shut g1, ?_, fun b hb => ?_, hI3.below⟩
    · rw [List.nodup_append]
      refine ⟨hn1, g2, fun b hb b' hb' e => ?_⟩
      subst e
      obtain ⟨m, hm⟩ := g3 b hb'
      exact (hgone b hb).2 m hm
    · have hno : ¬ (b < w.heap.size ∧ b ∉ fa) := by
        rcases List.mem_append.1 hb with hb | hb
        · obtain ⟨m, hm⟩ := (hgone b hb).1
          exact (hI3.fresh m b hm).1
        · obtain ⟨m, hm⟩ := g3 b hb
          exact (hI4.fresh m b hm).1
      by_cases h1 : b ∈ fa
      · exact .inl h1
      · exact .inr (by
          rcases Nat.lt_or_ge b w.heap.size with h2 | h2
          · exact absurd ⟨h2, h1⟩ hno
          · exact h2)
  cases x with
  | go => exact ⟨hI3.defers, u, hrun, u, fp, gs, rfl, key⟩
  | ret => exact ⟨hI3.defers, u, hrun, u, fp, gs, rfl, key⟩
  | out id => simp [X.ends] at hx
theorem vfin_sound {fn : Func} {n : Nat} {x : X} {p q : List Prop} {res : V} {outs : List V} (h : vfin P fn n x S p = some (q, res, outs)) : q = p ∧ x.ends = true ∧ ∃ H1, vres P fn S = some (res, H1) ∧ outsOf P H1 S.gv n = outs := by
  unfold vfin at h
  split at h
  · rename_i r H1 hx hr
    simp only [Option.some.injEq, Prod.mk.injEq] at h
    obtain ⟨rfl, rfl, rfl⟩ := h
    exact ⟨rfl, hx, H1, hr, rfl⟩
  · simp at h
theorem vpost_sound {fn : Func} {D E : Code} {n : Nat} {its : List It} {p : List Prop} {res : V} {outs : List V} (h : vpost P fn D E S n its = some (p, res, outs)) (hp : conj p) (hI : InvE P I C S a w) (Q : Exit → Act → World → Prop)
    (hQ : ∀ (x : X) (S2 : St) (H1 : List Blk) a' w', x.ends = true → vres P fn S2 = some (res, H1) → outsOf P H1 S2.gv n = outs → InvE P I C S2 a' w' → Q x.exit a' w') : D.wp P (Exit.then (E.wp P Q) Q) a w := by
  unfold vpost at h
  split at h
  · rename_i S3 i3 p3 h3
    split at h
    · rename_i x S4 p4 h4
      obtain ⟨rfl, hx, H1, hr, ho⟩ := vfin_sound h
      obtain ⟨hp1, hp2⟩ := conj_append hp
      exact vexec_sound D S S3 its i3 .go p3 h3 hp1 I C a w hI _ (fun a1 w1 hI1 => vexec_sound E S3 S4 i3 _ x p4 h4 hp2 I C a1 w1 hI1 Q (fun a2 w2 hI2 => hQ x S4 H1 a2 w2 hx hr ho hI2))
    · simp at h
  · rename_i x S3 p3 hne h3
    obtain ⟨rfl, hx, H1, hr, ho⟩ := vfin_sound h
    refine vexec_sound D S S3 its _ x _ h3 hp I C a w hI _ (fun a1 w1 hI1 => ?_)
    have := hQ x S3 H1 a1 w1 hx hr ho hI1
    cases x with
    | go => exact absurd rfl hne
    | out id => exact this
    | ret => exact this
  · simp at h
theorem Fn.two {fi : Nat} {args : List (Bool × V)} {res : V} {outs : List V} (i1 iT iF : List It) {p pT pF : List Prop} (h : vtwo P fi args i1 iT iF = some (p, (pT, res, outs), pF, res, outs)) (h0 : conj p) (hT : conj pT) (hF : conj pF) : Fn P fi args res outs := by
  unfold vtwo at h
  split at h
  · rename_i fn D E d e S2 p0 n hpre
    split at h
    · rename_i y hy
      split at h
      · simp only [Option.some.injEq, Prod.mk.injEq] at h
        obtain ⟨rfl, _, rfl⟩ := h
        obtain ⟨hent, hf, code, vs, bs, ls, hb, hargs, rfl, hw⟩ := vpre_sound hpre h0
        refine Fn.ofEnds hent hf hb hargs (fun I C a w hI Q hQ => hw I C a w hI Q (fun b a' w' hbe hI' => ?_))
        cases b with
        | true => exact absurd (hbe rfl) (by simp)
        | false => exact vpost_sound hy hF hI' Q hQ
      · split at h
        · rename_i x hx
          simp only [Option.some.injEq, Prod.mk.injEq] at h
          obtain ⟨rfl, rfl, rfl⟩ := h
          obtain ⟨hent, hf, code, vs, bs, ls, hb, hargs, rfl, hw⟩ := vpre_sound hpre h0
          refine Fn.ofEnds hent hf hb hargs (fun I C a w hI Q hQ => hw I C a w hI Q (fun b a' w' _ hI' => ?_))
          cases b with
          | true => exact vpost_sound hx hT hI' Q hQ
          | false => exact vpost_sound hy hF hI' Q hQ
        · simp at h
    · simp at h
  · simp at h
/-- A nil slice, told as one of no elements. -/
def denilC (es : List Nat) : V → V
  | .nl e => match es.any (Nat.beq e) with
    | true => .sl true e []
    | false => .nl e
  | v => v
def denil (es : List Nat) : Bool × V → Bool × V
  | (true, v) => (true, v)
  | (false, .agg cs) => (false, .agg (cs.map (denilC es)))
  | (false, v) => (false, denilC es v)
def szPos (P : Program) (e : Nat) : Bool := match szOf P e with
  | some (_ + 1) => true
  | _ => false
theorem denilC_sound {es : List Nat} (hz : es.all (szPos P) = true) (h : Vw P I w v u) : Vw P I w (denilC es v) u := by
  unfold denilC
  split
  · rename_i e
    split
    · rename_i hb
      obtain ⟨e', he', hb⟩ := List.any_eq_true.1 hb
      obtain rfl : e = e' := by simpa using hb
      have hp := List.all_eq_true.1 hz e he'
      unfold szPos at hp
      split at hp
      · rename_i k hs
        cases h with
        | nl _ A => exact .sl true e [] A 0 (k + 1) [] hs (by omega) (by simp) (by simp) (fun _ => rfl) (fun ad had hp => by simp at hp) (fun ad had i us j u hus => by simp at hus) rfl (fun i x us hx => by simp at hx) (fun i x us j c u hx => by simp at hx)
      · simp at hp
    · exact h
  · exact h
theorem denil_sound {es : List Nat} (hz : es.all (szPos P) = true) : ∀ (as : List (Bool × V)) (us : List Value) (f : List Nat), ArgsR P I w as us f → ArgsR P I w (as.map (denil es)) us f ∧ heads (as.map (denil es)) us = heads as us
  | [], [], f, h => ⟨h, rfl⟩
  | [], _ :: _, f, h => h.elim
  | (true, v) :: as, [], f, h => h.elim
  | (false, v) :: as, [], f, h => h.elim
  | (true, v) :: as, u :: us, f, ⟨g, g', e, h1, h2⟩ => by
    obtain ⟨q1, q2⟩ := denil_sound hz as us g' h2
    exact ⟨⟨g, g', e, h1, q1⟩, by simp only [List.map_cons, denil, heads, q2]⟩
  | (false, v) :: as, u :: us, f, ⟨h1, h2⟩ => by
    obtain ⟨q1, q2⟩ := denil_sound hz as us f h2
    cases v with
    | agg cs =>
      refine ⟨⟨?_, q1⟩, q2⟩
      cases h1 with
      | agg _ us' hlen hr h1 =>
        refine .agg _ us' (by rw [List.length_map]; exact hlen) (fun j c u hc hu => ?_) h1
        rw [List.getElem?_map] at hc
        cases hj : cs[j]? with
        | none => simp [hj] at hc
        | some y =>
          simp only [hj, Option.map_some, Option.some.injEq] at hc
          subst hc
          exact denilC_sound hz (hr j y u hj hu)
    | _ => exact ⟨⟨denilC_sound hz h1, q1⟩, q2⟩
theorem Fn.nil {fi : Nat} {args args' : List (Bool × V)} {res : V} {outs : List V} (es : List Nat) (hz : es.all (szPos P) = true) (e : args.map (denil es) = args') (h : Fn P fi args' res outs) : Fn P fi args res outs := by
  subst e
  refine ⟨h.1, fun I w us fa hI hn hfa hA hg => ?_⟩
  obtain ⟨q1, q2⟩ := denil_sound hz args us fa hA
  have := h.2 I w us fa hI hn hfa q1 hg
  rw [q2] at this
  exact this
def flagC : V → V
  | .sl _ e els => .sl true e els
  | v => v
def flagE : V → V
  | .agg cs => .agg (cs.map flagC)
  | v => flagC v
theorem flagE_cells (v : V) : (flagE v).cells = v.cells.map flagC := by cases v <;> rfl
theorem flagC_sound (h : Vw P I w v u) : Vw P I w (flagC v) u := by
  unfold flagC
  split
  · exact h.any
  · exact h
/-- The slices in the elements of argument k, told as rows. -/
def flagAt : Nat → List (Bool × V) → List (Bool × V)
  | 0, (false, .sl _ e els) :: as => (false, .sl true e (els.map flagE)) :: as
  | k + 1, a :: as => a :: flagAt k as
  | _, as => as
theorem flag_row {o : Bool} {e : Nat} {els : List V} (h : Vw P I w (.sl o e els) u) : Vw P I w (.sl true e (els.map flagE)) u := by
  cases h with
  | sl _ _ _ A cap sz uss hs hz hl hm hn hI hw hlen hc hr =>
    have hll : (els.map flagE).length = els.length := List.length_map ..
    have hget : ∀ (i : Nat) (x : V), (els.map flagE)[i]? = some x → ∃ y, els[i]? = some y ∧ x = flagE y := fun i x hx => by
      rw [List.getElem?_map] at hx
      cases hy : els[i]? with
      | none => simp [hy] at hx
      | some y => simp only [hy, Option.map_some, Option.some.injEq] at hx; exact ⟨y, rfl, hx.symm⟩
    rw [← hll]
    refine .sl true e _ A cap sz uss hs hz (by rw [hll]; exact hl) (by rw [hll]; exact hm) (fun h0 => by rw [hn h0]; rfl) (fun ad h0 h1 => hI ad h0 (by rw [hll] at h1; exact h1)) hw (by rw [hll]; exact hlen) (fun i x us hx hus => ?_) (fun i x us j c u hx hus hc' hu => ?_)
    · obtain ⟨y, hy, rfl⟩ := hget i x hx
      rw [flagE_cells, List.length_map]
      exact hc i y us hy hus
    · obtain ⟨y, hy, rfl⟩ := hget i x hx
      rw [flagE_cells, List.getElem?_map] at hc'
      cases hz' : y.cells[j]? with
      | none => simp [hz'] at hc'
      | some c0 =>
        simp only [hz', Option.map_some, Option.some.injEq] at hc'
        subst hc'
        exact flagC_sound (hr i y us j c0 u hy hus hz' hu)
theorem flagAt_sound : ∀ (k : Nat) (as : List (Bool × V)) (us : List Value) (f : List Nat), ArgsR P I w as us f → ArgsR P I w (flagAt k as) us f ∧ heads (flagAt k as) us = heads as us
  | 0, [], us, f, h => ⟨h, rfl⟩
  | 0, (true, v) :: as, us, f, h => ⟨h, rfl⟩
  | 0, (false, v) :: as, [], f, h => h.elim
  | 0, (false, v) :: as, u :: us, f, h => by
    cases v with
    | sl o e els => exact ⟨⟨flag_row h.1, h.2⟩, rfl⟩
    | _ => exact ⟨h, rfl⟩
  | k + 1, [], us, f, h => ⟨h, rfl⟩
  | k + 1, (true, v) :: as, [], f, h => h.elim
  | k + 1, (false, v) :: as, [], f, h => h.elim
  | k + 1, (true, v) :: as, u :: us, f, ⟨g, g', e, h1, h2⟩ => by
    obtain ⟨q1, q2⟩ := flagAt_sound k as us g' h2
    exact ⟨⟨g, g', e, h1, q1⟩, by simp only [flagAt, heads, q2]⟩
  | k + 1, (false, v) :: as, u :: us, f, ⟨h1, h2⟩ => by
    obtain ⟨q1, q2⟩ := flagAt_sound k as us f h2
    exact ⟨⟨h1, q1⟩, by simp only [flagAt, heads, q2]⟩
theorem Fn.flag {fi : Nat} {args args' : List (Bool × V)} {res : V} {outs : List V} (k : Nat) (e : flagAt k args = args') (h : Fn P fi args' res outs) : Fn P fi args res outs := by
  subst e
  refine ⟨h.1, fun I w us fa hI hn hfa hA hg => ?_⟩
  obtain ⟨q1, q2⟩ := flagAt_sound k args us fa hA
  have := h.2 I w us fa hI hn hfa q1 hg
  rw [q2] at this
  exact this
theorem flag_vmap {α : Type} (f : α → V) (h : ∀ x, flagE (f x).vw = f x) (l : List α) : (l.map fun x => (f x).vw).map flagE = l.map f := by
  rw [List.map_map]; exact List.map_congr_left fun x _ => h x
theorem flag_app {α : Type} (f : α → V) (h : ∀ x, flagE (f x) = f x) (l : List α) {v : V} {x : α} (hv : flagE v = f x) : (l.map f ++ [v]).map flagE = (l ++ [x]).map f := by
  rw [List.map_append, List.map_append, List.map_map, List.map_cons, List.map_nil, hv]
  congr 1
  exact List.map_congr_left fun x _ => h x
end
/-- What a function was given and what is not read on: it may lie anyhow. -/
theorem Fn.un1 {P : Program} {f : Nat} {args : List (Bool × V)} {res o : V} (h : Fn P f args res [o]) : Fn P f args res [.un] := by
  refine ⟨h.1, fun I w us fa a b c d e => (h.2 I w us fa a b c d e).mono ?_⟩
  rintro e' w' ⟨u, fp, gs, h1, h2, h3, h4, h5, h6⟩
  obtain ⟨x, xs, g, g', e1, e2, e3, e4⟩ := h3.uncons
  have e5 := (PwL.nil_inv e4).1
  subst e5
  refine ⟨u, fp, [], h1, h2, ?_, by rw [List.append_nil]; exact (List.nodup_append.1 h4).1, fun b hb => h5 b (by simp at hb; simp [hb]), h6⟩
  show RelL P I w' _ 0 false [.un] ((heads args us).take 1) []
  have e1 : (heads args us).take 1 = [x] := e1
  rw [e1]
  exact PwL.cons (f := []) (.leaf _ _ _ rfl (.un _)) PwL.nil
end Go.Proofs.YtdahdpnkppknfaaGreatDoorM
