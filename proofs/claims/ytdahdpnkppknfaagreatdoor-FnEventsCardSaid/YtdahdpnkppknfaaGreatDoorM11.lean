/- What is lent and given to a call, what a call hands back. No condition. -/
import Derived.Test.YtdahdpnkppknfaaGreatDoorM10
namespace Go.Proofs.YtdahdpnkppknfaaGreatDoorM
set_option linter.unusedVariables false
set_option linter.unusedSimpArgs false
open Go.RowKit

/-- A cell that is lent. -/
def lendC (P : Program) (H : List Blk) : V → V
  | .ow n => match H[n]? with
    | some (.row e els []) => .sl true e els
    | _ => .un
  | .sb n sz lo len => match H[n]? with
    | some (.row e els []) => match szOf P e with
      | some sz' => match Nat.beq sz' sz with
        | true => .sl true e ((els.drop lo).take len)
        | false => .un
      | none => .un
    | _ => .un
  | .sl _ e els => .sl true e els
  | .nl e => match szOf P e with
    | some (_ + 1) => .sl true e []
    | _ => .un
  | .sc v => .sc v
  | .cp cs => .cp cs
  | _ => .un
mutual
/-- What a callee is told of a value that the frame lends it. -/
def lend (P : Program) (H : List Blk) : V → V
  | .agg cs => .agg (lendL P H cs)
  | .fn g cs => .fn g (lendL P H cs)
  | .ptr n off => match homeBox H n with
    | some (_, cs) => match Nat.ble (off + 1) cs.length with
      | true => .cp ((cs.drop off).map (lendC P H))
      | false => .un
    | none => .un
  | .ow n => lendC P H (.ow n)
  | .sb n sz lo len => lendC P H (.sb n sz lo len)
  | .sl o e els => .sl true e els
  | .nl e => .nl e
  | .sc v => .sc v
  | .cp cs => .cp cs
  | _ => .un
def lendL (P : Program) (H : List Blk) : List V → List V
  | [] => []
  | c :: cs => lend P H c :: lendL P H cs
end
theorem lendL_map (P : Program) (H : List Blk) : ∀ cs : List V, lendL P H cs = cs.map (lend P H)
  | [] => rfl
  | c :: cs => by simp [lendL, lendL_map P H cs]
mutual
/-- It holds and names nothing of the frame's own. -/
def V.keep : V → Bool
  | .agg cs => keepL cs
  | .fn _ cs => keepL cs
  | .un | .sc _ | .nl _ | .sl false _ _ | .cp _ => true
  | _ => false
def keepL : List V → Bool
  | [] => true
  | c :: cs => c.keep && keepL cs
end
theorem keepL_all : ∀ cs : List V, keepL cs = cs.all V.keep
  | [] => rfl
  | c :: cs => by simp [keepL, keepL_all cs]
mutual
/-- It has no part that is only read. -/
def V.nv : V → Bool
  | .sc _ => true
  | .nl _ => true
  | .un => true
  | .sl true _ els => nvL els
  | .agg cs => nvL cs
  | .tup cs => nvL cs
  | .bx _ cs => nvL cs
  | _ => false
def nvL : List V → Bool
  | [] => true
  | c :: cs => c.nv && nvL cs
end
theorem nvL_all : ∀ cs : List V, nvL cs = cs.all V.nv
  | [] => rfl
  | c :: cs => by simp [nvL, nvL_all cs]
mutual
/-- The rows and variables in a value get numbers, from N on. -/
def openV (N : Nat) : V → V × List Blk
  | .sl true e els => (.ow N, [.row e els []])
  | .agg cs => match openL N cs with
    | (cs', bs) => (.agg cs', bs)
  | .tup cs => match openL N cs with
    | (cs', bs) => (.tup cs', bs)
  | .bx e cs => match openL N cs with
    | (cs', bs) => (.ptr (N + bs.length) 0, bs ++ [.box e cs'])
  | v => (v, [])
def openL (N : Nat) : List V → List V × List Blk
  | [] => ([], [])
  | c :: cs => match openV N c with
    | (c', b1) => match openL (N + b1.length) cs with
      | (cs', b2) => (c' :: cs', b1 ++ b2)
end
mutual
/-- The numbers of a value's rows and variables. -/
def leafs (N : Nat) : V → List Nat
  | .sl true _ _ => [N]
  | .agg cs => leafsL N cs
  | .tup cs => leafsL N cs
  | .bx _ cs => [N + (openL N cs).2.length]
  | _ => []
def leafsL (N : Nat) : List V → List Nat
  | [] => []
  | c :: cs => leafs N c ++ leafsL (N + (openV N c).2.length) cs
end
mutual
/-- The heads of a value's rows and variables. -/
def hd : V → Value → List Value
  | .sl true _ _, u => [u]
  | .bx _ _, u => [u]
  | .agg cs, .agg us => hdL cs us.toList
  | .tup cs, .tuple us => hdL cs us.toList
  | _, _ => []
def hdL : List V → List Value → List Value
  | c :: cs, u :: us => hd c u ++ hdL cs us
  | _, _ => []
end
/-- Arguments: given (true), or lent. -/
def ArgsR (P : Program) (I : Nat → Prop) (w : World) : List (Bool × V) → List Value → List Nat → Prop
  | [], [], f => f = []
  | (true, v) :: as, u :: us, f => ∃ g g', f = g ++ g' ∧ Rel P I w (fun _ => undef) 0 false v u g ∧ ArgsR P I w as us g'
  | (false, v) :: as, u :: us, f => Vw P I w v u ∧ ArgsR P I w as us f
  | _, _, _ => False
def heads : List (Bool × V) → List Value → List Value
  | (true, v) :: as, u :: us => hd v u ++ heads as us
  | (false, _) :: as, _ :: us => heads as us
  | _, _ => []
def enters (P : Program) (f : Nat) : Bool := match P.funcs[f]? with
  | some fn => !(fn.name == "runtime.NumGoroutine") && fn.body.isSome
  | none => false
/-- What a function does: called so, it hands this back; what it was given lies so afterwards. -/
def Fn (P : Program) (f : Nat) (args : List (Bool × V)) (res : V) (outs : List V) : Prop :=
  enters P f = true ∧ ∀ (I : Nat → Prop) (w : World) (us : List Value) (fa : List Nat), (∀ b, I b → b < w.heap.size) → fa.Nodup → (∀ b, b ∈ fa → ¬ I b) → ArgsR P I w args us fa → Gl w fa →
    Calls P f us.toArray w fun e w' => ∃ u fp gs, e = .returned u ∧ Rel P I w' (fun _ => undef) 0 false res u fp ∧ RelL P I w' (fun _ => undef) 0 false outs ((heads args us).take outs.length) gs ∧ (fp ++ gs).Nodup ∧ (∀ b, b ∈ fp ++ gs → b ∈ fa ∨ w.heap.size ≤ b) ∧ Kp (fun b => b < w.heap.size ∧ b ∉ fa) w w'
section
variable {P : Program} {R R' : Nat → Value} {N N' : Nat} {I I' : Nat → Prop} {w w' : World} {C : Ctx} {S S' : St} {a : Act} {F F' : Nat → List Nat} {t : Bool} {v : V} {u : Value} {f : List Nat}
theorem Rel.own_bare (h : Rel P I w R N t v u f) : v.nv = true → ∀ I', Rel P I' w R N t v u f := by
  induction h with
  | leaf t v u hb h =>
    intro hn I'
    refine .leaf t v u hb ?_
    cases h with
    | un => exact .un _
    | sc _ h => exact .sc _ h
    | nl e A => exact .nl e A
    | sl o => cases o <;> simp [V.leafB, V.nv] at hb hn
    | agg => simp [V.leafB] at hb
    | fn => simp [V.leafB] at hb
    | cp => simp [V.nv] at hn
    | bx => simp [V.leafB] at hb
  | row t e els v sz uss fss hs hz ho hlen hfl hc hr ih =>
    intro hn I'
    simp only [V.nv, nvL_all, List.all_eq_true] at hn
    refine .row t e els v sz uss fss hs hz ho hlen hfl hc (fun i x us fs j c u f h1 h2 h3 h4 h5 h6 => ih i x us fs j c u f h1 h2 h3 h4 h5 h6 ?_ I')
    have hx := hn x (List.mem_of_getElem? h1)
    have hc := List.mem_of_getElem? h4
    cases x with
    | agg cs => simp only [V.nv, nvL_all, List.all_eq_true] at hx; exact hx c hc
    | _ => simp only [V.cells, List.mem_singleton] at hc; subst hc; exact hx
  | agg t cs us fs hlen hf hr h1 ih =>
    intro hn I'
    simp only [V.nv, nvL_all, List.all_eq_true] at hn
    exact .agg t cs us fs hlen hf (fun j c u g hc hu hg => ih j c u g hc hu hg (hn c (List.mem_of_getElem? hc)) I') h1
  | tup t cs us fs hlen hf hr ih =>
    intro hn I'
    simp only [V.nv, nvL_all, List.all_eq_true] at hn
    exact .tup t cs us fs hlen hf (fun j c u g hc hu hg => ih j c u g hc hu hg (hn c (List.mem_of_getElem? hc)) I')
  | bx t e cs g us fs hg hlen hf hr h1 ih =>
    intro hn I'
    simp only [V.nv, nvL_all, List.all_eq_true] at hn
    exact .bx t e cs g us fs hg hlen hf (fun j c u g hc hu hg => ih j c u g hc hu hg (hn c (List.mem_of_getElem? hc)) I') h1
  | fn => intro hn; simp [V.nv] at hn
  | ptr => intro hn; simp [V.nv] at hn
  | ow => intro hn; simp [V.nv] at hn
  | ep => intro hn; simp [V.nv] at hn
  | sb => intro hn; simp [V.nv] at hn
  | mp => intro hn; simp [V.nv] at hn
theorem Rel.tup_one {vs : List V} (h : Rel P I w R N t (.tup vs) u f) (h1 : u.oneCell' = true) : False := by
  obtain ⟨us, rfl, _⟩ := h.tup_inv
  simp [Value.oneCell'] at h1
/-- What is one's own may be read. -/
theorem Rel.view (h : Rel P I w R N t v u f) : t = false → (∀ b, I b → I' b) → (∀ b, b ∈ f → I' b) → (∀ vs, v ≠ .tup vs) → Vw P I' w v u := by
  induction h with
  | leaf t v u hb h => exact fun _ hI _ _ => h.more hI
  | row t e els v sz uss fss hs hz ho hlen hfl hc hr ih =>
    intro _ hI hf _
    have hcell := fun {i j : Nat} {us : List Value} {u : Value} => ho.cell (i := i) (j := j) (us := us) (u := u) (fun us hus => by
      obtain ⟨i, hi, rfl⟩ := List.mem_iff_getElem.1 hus
      exact (hc i _ _ _ (List.getElem?_eq_getElem (by omega)) (List.getElem?_eq_getElem hi) (List.getElem?_eq_getElem (by omega))).2.1) hlen
    obtain ⟨q1, A, cap, rfl, q2, q3⟩ := ho
    refine .sl true e els A cap sz uss hs hz q2 ?_ (fun hA => ?_) (fun ad had hp => ?_) (fun ad had i us j u hus hu => ?_) hlen (fun i x us hx hus => ?_) (fun i x us j c u hx hus hc' hu => ?_)
    · rcases q3 with rfl | ⟨g, o, cur, _, _, q4, _⟩
      · omega
      · unfold maxLen at q4; omega
    · rcases q3 with rfl | ⟨g, o, cur, hA', _⟩
      · exact List.eq_nil_of_length_eq_zero (by omega)
      · rw [hA] at hA'; cases hA'
    · rcases q3 with rfl | ⟨g, o, cur, rfl, _⟩
      · omega
      · obtain rfl := Option.some.inj had
        refine hf _ (List.mem_append_left _ ?_)
        cases cap with
        | zero => omega
        | succ cap => simp [fbOf]
    · obtain ⟨g, o, cap', hv, hcc⟩ := hcell hus hu
      simp only [Value.slice.injEq] at hv
      rw [hv.1] at had
      obtain rfl := Option.some.inj had
      rw [addr_add]
      exact hcc
    · have hi := (List.getElem?_eq_some_iff.1 hx).1
      obtain ⟨c1, c2, _, c4⟩ := hc i x us _ hx hus (List.getElem?_eq_getElem (by omega))
      exact ⟨c1, c2, c4⟩
    · have hi := (List.getElem?_eq_some_iff.1 hx).1
      have hfs : fss[i]? = some (fss[i]'(by omega)) := List.getElem?_eq_getElem (by omega)
      obtain ⟨c1, c2, c3, c4⟩ := hc i x us _ hx hus hfs
      have hj := (List.getElem?_eq_some_iff.1 hu).1
      have hfj : (fss[i]'(by omega))[j]? = some ((fss[i]'(by omega))[j]'(by omega)) := List.getElem?_eq_getElem (by omega)
      refine ih i x us _ j c u _ hx hus hfs hc' hu hfj rfl hI (fun b hb => hf b (List.mem_append_right _ ?_)) (fun vs hvs => ?_)
      · exact List.mem_flatten.2 ⟨_, List.mem_map.2 ⟨_, List.mem_of_getElem? hfs, rfl⟩, flatten_mem hfj hb⟩
      · subst hvs
        exact (hr i x us _ j _ u _ hx hus hfs hc' hu hfj).tup_one (c4 u (List.mem_of_getElem? hu))
  | agg t cs us fs hlen hfl hr h1 ih =>
    intro ht hI hf _
    refine .agg cs us hlen (fun j c u hc hu => ?_) h1
    have hj := (List.getElem?_eq_some_iff.1 hu).1
    have hfj : fs[j]? = some (fs[j]'(by omega)) := List.getElem?_eq_getElem (by omega)
    exact ih j c u _ hc hu hfj ht hI (fun b hb => hf b (flatten_mem hfj hb)) (fun vs hvs => by
      subst hvs
      exact (hr j _ u _ hc hu hfj).tup_one (h1 u (List.mem_of_getElem? hu)))
  | tup => exact fun _ _ _ hv => absurd rfl (hv _)
  | fn t g cs us hnt hlen hr ih =>
    intro ht hI hf _
    refine .fn g cs us hlen (fun j c u hc hu => ih j c u hc hu ht hI (fun b hb => by simp at hb) (fun vs hvs => ?_))
    subst hvs
    have := List.all_eq_true.1 hnt _ (List.mem_of_getElem? hc)
    simp [V.notTup] at this
  | bx t e cs g us fs hg hlen hfl hr h1 ih =>
    intro _ hI hf _
    refine .bx e cs _ us.toList (hf g (by simp)) rfl (fun j x hx => ?_) hlen (fun j c u hc hu => ?_) h1
    · rw [Nat.zero_add, cell_of_row w g j us e (0, 0) hg]
      simpa using hx
    · have hj := (List.getElem?_eq_some_iff.1 hu).1
      have hfj : fs[j]? = some (fs[j]'(by omega)) := List.getElem?_eq_getElem (by omega)
      exact ih j c u _ hc hu hfj rfl hI (fun b hb => hf b (List.mem_cons_of_mem _ (flatten_mem hfj hb))) (fun vs hvs => by
        subst hvs
        exact (hr j _ u _ hc hu hfj).tup_one (h1 u (List.mem_of_getElem? hu)))
  | ptr | ow | ep | sb | mp => intro ht; cases ht
end
end Go.Proofs.YtdahdpnkppknfaaGreatDoorM
