/- What a value reads as in memory: read only, or with rows of its own. No condition. -/
import Derived.Test.YtdahdpnkppknfaaGreatDoorM0
namespace Go.Proofs.YtdahdpnkppknfaaGreatDoorM
set_option linter.unusedVariables false
set_option linter.unusedSimpArgs false
open Go.RowKit

/-- The block that a row lies in. -/
def fbOf : Value → List Nat
  | .slice (some ad) _ (_ + 1) => [ad.block]
  | _ => []
/-- Cells lie there, and none of them is frozen (a mark may lie behind them where they are the bytes of a string). -/
def Lies (w : World) (g : Nat) (cur : Array Value) (e : Nat) : Prop := ∃ fz : Nat × Nat, w.heap[g]? = some (.cells cur e fz) ∧ (fz = (0, 0) ∨ (cur.size ≤ fz.1 ∧ byT e = true))
theorem Lies.of {w : World} {g e : Nat} {cur : Array Value} (h : w.heap[g]? = some (.cells cur e (0, 0))) : Lies w g cur e := ⟨_, h, .inl rfl⟩
theorem Lies.lt {w : World} {g e : Nat} {cur : Array Value} (h : Lies w g cur e) : g < w.heap.size := by
  obtain ⟨_, h, _⟩ := h
  exact (Array.getElem?_eq_some_iff.1 h).1
theorem Lies.same {w w' : World} {g e : Nat} {cur : Array Value} (h : Lies w g cur e) (hs : w'.heap[g]? = w.heap[g]?) : Lies w' g cur e := by
  obtain ⟨fz, h, r⟩ := h
  exact ⟨fz, hs.trans h, r⟩
theorem Lies.cell {w : World} {g e : Nat} {cur : Array Value} (h : Lies w g cur e) (k : Nat) : w.cell? ⟨g, k, none⟩ = cur[k]? := by
  obtain ⟨fz, h, _⟩ := h
  exact cell_of_row w g k cur e fz h
theorem Lies.set {w : World} {g e : Nat} {cur cur' : Array Value} (h : Lies w g cur e) (hs : cur'.size = cur.size) : Lies (w.setRow g cur') g cur' e := by
  obtain ⟨fz, h, r⟩ := h
  exact ⟨fz, setRow_heap w g cur cur' e fz h, r.imp id fun h => ⟨by have := h.1; omega, h.2⟩⟩
/-- Cells are written, none of which is frozen. -/
theorem Lies.run_store (P : Program) (g o e : Nat) : ∀ (vs : List Value) (i : Nat) (cur : Array Value) (w : World), Lies w g cur e → o + i + vs.length ≤ cur.size → (∀ v ∈ vs, v.oneCell' = true) →
    (storeCells ⟨g, o, none⟩ vs i).run P w = .ok () (w.setRow g (cur.toList.take (o + i) ++ vs ++ cur.toList.drop (o + i + vs.length)).toArray)
  | [], i, cur, w, hg, _, _ => by
    obtain ⟨fz, hg, _⟩ := hg
    simp only [storeCells, List.append_nil, List.length_nil, Nat.add_zero, List.take_append_drop, Array.toArray_toList]
    rw [setRow_self w g cur e fz hg]
    rfl
  | v :: rest, i, cur, w, hL, hl, h1 => by
    obtain ⟨fz, hg, hfz⟩ := hL
    have hi : o + i < cur.size := by simp at hl; omega
    have hadd : (⟨g, o, none⟩ : Addr).add i = ⟨g, o + i, none⟩ := by unfold Addr.add; split <;> simp_all
    have hcell : w.cell? ⟨g, o + i, none⟩ = some cur[o + i] := by simp [World.cell?, hg, hi]
    have hfro : w.frozen? ⟨g, o + i, none⟩ = false := by
      obtain ⟨lo, hi'⟩ := fz
      simp only [World.frozen?, hg, Bool.and_eq_false_iff, decide_eq_false_iff_not]
      rcases hfz with hfz | ⟨hfz, _⟩
      · simp only [Prod.mk.injEq] at hfz
        right; omega
      · simp only at hfz
        left; omega
    have hst : (store ((⟨g, o, none⟩ : Addr).add i) v).run P w = .ok () (w.setRow g (cur.setIfInBounds (o + i) v)) := by
      rw [hadd, Go.run_store P w _ v _ (h1 v (by simp)), hcell]
      simp [hfro, setCell_eq_setRow w g (o + i) cur e fz v hg]
    have ih := Lies.run_store P g o e rest (i + 1) (cur.setIfInBounds (o + i) v) (w.setRow g (cur.setIfInBounds (o + i) v)) (Lies.set ⟨fz, hg, hfz⟩ (by simp)) (by simp at hl ⊢; omega) (fun x hx => h1 x (by simp [hx]))
    simp only [storeCells, Sem.run_bind, hst, Result.andThen_ok, ih, setRow_setRow]
    congr 3
    have e := list_seg_step cur.toList (o + i) v rest (by simp at hl ⊢; omega)
    simpa [Array.toList_setIfInBounds, Nat.add_assoc] using e
/-- A row of cells that is the call's own. -/
def Own (w : World) (e sz : Nat) (v : Value) (n : Nat) (xs : List Value) : Prop :=
  xs.length = n * sz ∧ ∃ A cap, v = .slice A n cap ∧ n ≤ cap ∧ (cap = 0 ∨ ∃ g o cur, A = some ⟨g, o, none⟩ ∧ Lies w g cur e ∧ cap ≤ maxLen ∧ cur.size = o + cap * sz ∧ (cur.toList.drop o).take (n * sz) = xs)
/-- It has nothing of its own, at its top. -/
def V.leafB : V → Bool
  | .un | .sc _ | .nl _ | .sl false _ _ | .cp _ => true
  | _ => false
def V.notTup : V → Bool
  | .tup _ => false
  | _ => true
/-- Cell by cell, with the blocks that each has of its own. -/
def PwL (p : V → Value → List Nat → Prop) (cs : List V) (us : List Value) (f : List Nat) : Prop :=
  ∃ fs : List (List Nat), cs.length = us.length ∧ fs.length = us.length ∧ f = fs.flatten ∧ ∀ (j : Nat) (c : V) (u : Value) (g : List Nat), cs[j]? = some c → us[j]? = some u → fs[j]? = some g → p c u g

section
variable (P : Program) (I : Nat → Prop) (w : World)
/-- What may only be read (its memory: blocks of I). -/
inductive Vw : V → Value → Prop
  | un (u : Value) : Vw .un u
  | sc (v : Value) (h : flatB v = true) : Vw (.sc v) v
  | nl (e : Nat) (A : Option Addr) : Vw (.nl e) (.slice A 0 0)
  | sl (o : Bool) (e : Nat) (els : List V) (A : Option Addr) (cap sz : Nat) (uss : List (List Value)) (hs : szOf P e = some sz) (hz : 0 < sz) (hl : els.length ≤ cap) (hm : els.length ≤ 9223372036854775807)
      (hn : A = none → els = []) (hI : ∀ ad, A = some ad → 0 < els.length → I ad.block)
      (hw : ∀ ad, A = some ad → ∀ (i : Nat) (us : List Value) (j : Nat) (u : Value), uss[i]? = some us → us[j]? = some u → w.cell? (ad.add (i * sz + j)) = some u) (hlen : uss.length = els.length)
      (hc : ∀ (i : Nat) (x : V) (us : List Value), els[i]? = some x → uss[i]? = some us → x.cells.length = sz ∧ us.length = sz ∧ ∀ u ∈ us, u.oneCell' = true)
      (hr : ∀ (i : Nat) (x : V) (us : List Value) (j : Nat) (c : V) (u : Value), els[i]? = some x → uss[i]? = some us → x.cells[j]? = some c → us[j]? = some u → Vw c u) : Vw (.sl o e els) (.slice A els.length cap)
  | agg (cs : List V) (us : List Value) (hlen : cs.length = us.length) (hr : ∀ (j : Nat) (c : V) (u : Value), cs[j]? = some c → us[j]? = some u → Vw c u) (h1 : ∀ u ∈ us, u.oneCell' = true) : Vw (.agg cs) (.agg us.toArray)
  | fn (g : Nat) (cs : List V) (us : List Value) (hlen : cs.length = us.length) (hr : ∀ (j : Nat) (c : V) (u : Value), cs[j]? = some c → us[j]? = some u → Vw c u) : Vw (.fn g cs) (.func (.func g) #[] us.toArray)
  | cp (cs : List V) (ad : Addr) (us : List Value) (hI : I ad.block) (hs : ad.spot = none) (hw : ∀ (j : Nat) (u : Value), us[j]? = some u → w.cell? ⟨ad.block, ad.off + j, none⟩ = some u) (hlen : cs.length = us.length)
      (hr : ∀ (j : Nat) (c : V) (u : Value), cs[j]? = some c → us[j]? = some u → Vw c u) (h1 : ∀ u ∈ us, u.oneCell' = true) : Vw (.cp cs) (.pointer (some ad))
  | bx (e : Nat) (cs : List V) (ad : Addr) (us : List Value) (hI : I ad.block) (hs : ad.spot = none) (hw : ∀ (j : Nat) (u : Value), us[j]? = some u → w.cell? ⟨ad.block, ad.off + j, none⟩ = some u) (hlen : cs.length = us.length)
      (hr : ∀ (j : Nat) (c : V) (u : Value), cs[j]? = some c → us[j]? = some u → Vw c u) (h1 : ∀ u ∈ us, u.oneCell' = true) : Vw (.bx e cs) (.pointer (some ad))
variable (R : Nat → Value) (N : Nat)
/-- The value u of memory w reads as v; the blocks that are its own. (t: may it name the frame's own by their numbers?) -/
inductive Rel : Bool → V → Value → List Nat → Prop
  | leaf (t : Bool) (v : V) (u : Value) (hb : v.leafB = true) (h : Vw P I w v u) : Rel t v u []
  | row (t : Bool) (e : Nat) (els : List V) (v : Value) (sz : Nat) (uss : List (List Value)) (fss : List (List (List Nat))) (hs : szOf P e = some sz) (hz : 0 < sz) (ho : Own w e sz v els.length uss.flatten) (hlen : uss.length = els.length) (hfl : fss.length = els.length)
      (hc : ∀ (i : Nat) (x : V) (us : List Value) (fs : List (List Nat)), els[i]? = some x → uss[i]? = some us → fss[i]? = some fs → x.cells.length = sz ∧ us.length = sz ∧ fs.length = sz ∧ ∀ u ∈ us, u.oneCell' = true)
      (hr : ∀ (i : Nat) (x : V) (us : List Value) (fs : List (List Nat)) (j : Nat) (c : V) (u : Value) (f : List Nat), els[i]? = some x → uss[i]? = some us → fss[i]? = some fs → x.cells[j]? = some c → us[j]? = some u → fs[j]? = some f → Rel false c u f) :
      Rel t (.sl true e els) v (fbOf v ++ (fss.map List.flatten).flatten)
  | agg (t : Bool) (cs : List V) (us : List Value) (fs : List (List Nat)) (hlen : cs.length = us.length) (hf : fs.length = us.length)
      (hr : ∀ (j : Nat) (c : V) (u : Value) (f : List Nat), cs[j]? = some c → us[j]? = some u → fs[j]? = some f → Rel t c u f) (h1 : ∀ u ∈ us, u.oneCell' = true) : Rel t (.agg cs) (.agg us.toArray) fs.flatten
  | tup (t : Bool) (cs : List V) (us : List Value) (fs : List (List Nat)) (hlen : cs.length = us.length) (hf : fs.length = us.length)
      (hr : ∀ (j : Nat) (c : V) (u : Value) (f : List Nat), cs[j]? = some c → us[j]? = some u → fs[j]? = some f → Rel t c u f) : Rel t (.tup cs) (.tuple us.toArray) fs.flatten
  | fn (t : Bool) (g : Nat) (cs : List V) (us : List Value) (hnt : cs.all V.notTup = true) (hlen : cs.length = us.length) (hr : ∀ (j : Nat) (c : V) (u : Value), cs[j]? = some c → us[j]? = some u → Rel t c u []) : Rel t (.fn g cs) (.func (.func g) #[] us.toArray) []
  | ptr (n off g : Nat) (hn : n < N) (hR : R n = .pointer (some ⟨g, 0, none⟩)) : Rel true (.ptr n off) (.pointer (some ⟨g, off, none⟩)) []
  | ow (n : Nat) (hn : n < N) (L cap : Nat) (A : Option Addr) (hR : R n = .slice A L cap) : Rel true (.ow n) (.slice A L cap) []
  | ep (n sz i off g o L cap : Nat) (hn : n < N) (hR : R n = .slice (some ⟨g, o, none⟩) L cap) : Rel true (.ep n sz i off) (.pointer (some ⟨g, o + (i * sz + off), none⟩)) []
  | sb (n sz lo len : Nat) (A A' : Option Addr) (L cap : Nat) (hn : n < N) (hR : R n = .slice A L cap) (hl : lo + len ≤ L) (hA : lo < cap → ∃ g o, A = some ⟨g, o, none⟩ ∧ A' = some ⟨g, o + lo * sz, none⟩) : Rel true (.sb n sz lo len) (.slice A' len (cap - lo)) []
  | mp (n g : Nat) (hn : n < N) (hR : R n = .map (some g)) : Rel true (.mp n) (.map (some g)) []
  | bx (t : Bool) (e : Nat) (cs : List V) (g : Nat) (us : Array Value) (fs : List (List Nat)) (hg : w.heap[g]? = some (.cells us e (0, 0))) (hlen : cs.length = us.toList.length) (hf : fs.length = us.toList.length)
      (hr : ∀ (j : Nat) (c : V) (u : Value) (f : List Nat), cs[j]? = some c → us.toList[j]? = some u → fs[j]? = some f → Rel false c u f) (h1 : ∀ u ∈ us.toList, u.oneCell' = true) : Rel t (.bx e cs) (.pointer (some ⟨g, 0, none⟩)) (g :: fs.flatten)
end
abbrev RelL (P : Program) (I : Nat → Prop) (w : World) (R : Nat → Value) (N : Nat) (t : Bool) : List V → List Value → List Nat → Prop := PwL (Rel P I w R N t)

theorem flatten_mem {fs : List (List Nat)} {j : Nat} {f : List Nat} {k : Nat} (h : fs[j]? = some f) (hk : k ∈ f) : k ∈ fs.flatten :=
  List.mem_flatten.2 ⟨f, List.mem_of_getElem? h, hk⟩
section
variable {p q : V → Value → List Nat → Prop}
theorem PwL.nil : PwL p [] [] [] := ⟨[], rfl, rfl, rfl, fun j c u g h => by simp at h⟩
theorem PwL.cons {c : V} {u : Value} {f : List Nat} {cs : List V} {us : List Value} {g : List Nat} (h : p c u f) (hs : PwL p cs us g) : PwL p (c :: cs) (u :: us) (f ++ g) := by
  obtain ⟨fs, h1, h2, rfl, h3⟩ := hs
  refine ⟨f :: fs, by simp [h1], by simp [h2], by simp, fun j c' u' g' hc hu hg => ?_⟩
  cases j with
  | zero => simp at hc hu hg; subst hc hu hg; exact h
  | succ j => exact h3 j c' u' g' (by simpa using hc) (by simpa using hu) (by simpa using hg)
theorem PwL.uncons {c : V} {cs : List V} {us : List Value} {f : List Nat} (h : PwL p (c :: cs) us f) : ∃ u us' g g', us = u :: us' ∧ f = g ++ g' ∧ p c u g ∧ PwL p cs us' g' := by
  obtain ⟨fs, h1, h2, rfl, h3⟩ := h
  cases us with
  | nil => simp at h1
  | cons u us' =>
    cases fs with
    | nil => simp at h2
    | cons g fs =>
      exact ⟨u, us', g, fs.flatten, rfl, by simp, h3 0 c u g rfl rfl rfl, fs, by simpa using h1, by simpa using h2, rfl, fun j c' u' g' hc hu hg => h3 (j + 1) c' u' g' (by simpa using hc) (by simpa using hu) (by simpa using hg)⟩
theorem PwL.nil_inv {us : List Value} {f : List Nat} (h : PwL p [] us f) : us = [] ∧ f = [] := by
  obtain ⟨fs, h1, h2, rfl, _⟩ := h
  have : us = [] := List.eq_nil_of_length_eq_zero (by simpa using h1.symm)
  subst this
  have : fs = [] := List.eq_nil_of_length_eq_zero (by simpa using h2)
  subst this
  exact ⟨rfl, rfl⟩
theorem PwL.len {cs : List V} {us : List Value} {f : List Nat} (h : PwL p cs us f) : cs.length = us.length := by
  obtain ⟨_, h, _⟩ := h
  exact h
theorem PwL.mono {cs : List V} {us : List Value} {f : List Nat} (h : PwL p cs us f) (hm : ∀ c u g, c ∈ cs → u ∈ us → (∀ b, b ∈ g → b ∈ f) → p c u g → q c u g) : PwL q cs us f := by
  obtain ⟨fs, h1, h2, rfl, h3⟩ := h
  exact ⟨fs, h1, h2, rfl, fun j c u g hc hu hg => hm c u g (List.mem_of_getElem? hc) (List.mem_of_getElem? hu) (fun b hb => flatten_mem hg hb) (h3 j c u g hc hu hg)⟩
theorem PwL.get {cs : List V} {us : List Value} {f : List Nat} (h : PwL p cs us f) {j : Nat} {c : V} (hc : cs[j]? = some c) : ∃ u g, us[j]? = some u ∧ p c u g ∧ ∀ k, k ∈ g → k ∈ f := by
  obtain ⟨fs, h1, h2, rfl, h3⟩ := h
  obtain ⟨hj, _⟩ := List.getElem?_eq_some_iff.1 hc
  exact ⟨us[j], fs[j], List.getElem?_eq_getElem (by omega), h3 j c _ _ hc (List.getElem?_eq_getElem (by omega)) (List.getElem?_eq_getElem (by omega)), fun k hk => flatten_mem (List.getElem?_eq_getElem (by omega)) hk⟩
theorem PwL.append {cs cs' : List V} {us us' : List Value} {f f' : List Nat} (h : PwL p cs us f) (h' : PwL p cs' us' f') : PwL p (cs ++ cs') (us ++ us') (f ++ f') := by
  induction cs generalizing us f with
  | nil =>
    obtain ⟨rfl, rfl⟩ := h.nil_inv
    simpa using h'
  | cons c cs ih =>
    obtain ⟨u, us1, g, g', rfl, rfl, h1, h2⟩ := h.uncons
    rw [List.cons_append, List.cons_append, List.append_assoc]
    exact .cons h1 (ih h2)
theorem PwL.of_bare {cs : List V} {us : List Value} (hl : cs.length = us.length) (h : ∀ (j : Nat) (c : V) (u : Value), cs[j]? = some c → us[j]? = some u → p c u []) : PwL p cs us [] := by
  refine ⟨List.replicate us.length [], hl, by simp, by simp, fun j c u g hc hu hg => ?_⟩
  have : g = [] := (List.mem_replicate.1 (List.mem_of_getElem? hg)).2
  subst this
  exact h j c u hc hu
theorem PwL.bare {cs : List V} {us : List Value} (h : PwL p cs us []) : ∀ (j : Nat) (c : V) (u : Value), cs[j]? = some c → us[j]? = some u → p c u [] := by
  obtain ⟨fs, h1, h2, h0, h3⟩ := h
  intro j c u hc hu
  obtain ⟨hj, _⟩ := List.getElem?_eq_some_iff.1 hu
  have hg : fs[j]? = some fs[j] := List.getElem?_eq_getElem (by omega)
  have hnil : fs[j] = [] := by
    rcases hx : fs[j] with _ | ⟨k, r⟩
    · rfl
    · have : k ∈ fs.flatten := flatten_mem hg (by rw [hx]; simp)
      rw [← h0] at this
      simp at this
  have := h3 j c u _ hc hu hg
  rwa [hnil] at this
/-- A cell in the midst is taken out. -/
theorem PwL.at {cs : List V} {us : List Value} {f : List Nat} (h : PwL p cs us f) (j : Nat) {c : V} (hc : cs[j]? = some c) :
    ∃ u g f', us[j]? = some u ∧ p c u g ∧ g.Sublist f ∧ f'.Sublist f ∧ (f.Nodup → ∀ b, b ∈ g → b ∉ f') ∧ ∀ q : V → Value → List Nat → Prop, (∀ c u g, p c u g → q c u g) → ∀ c', q c' u [] → PwL q (cs.set j c') us f' := by
  induction cs generalizing us f j with
  | nil => simp at hc
  | cons x cs ih =>
    obtain ⟨u, us', g, g', rfl, rfl, h1, h2⟩ := h.uncons
    cases j with
    | zero =>
      simp only [List.getElem?_cons_zero, Option.some.injEq] at hc
      subst hc
      exact ⟨u, g, g', rfl, h1, List.sublist_append_left _ _, List.sublist_append_right _ _, fun hn b hb hb' => (List.nodup_append.1 hn).2.2 b hb b hb' rfl, fun q hq c' hp => by simpa using PwL.cons hp (h2.mono fun c u g _ _ _ h => hq c u g h)⟩
    | succ j =>
      obtain ⟨v, k, f', e1, e2, e3, e4, e5, e6⟩ := ih h2 j (by simpa using hc)
      refine ⟨v, k, g ++ f', by simpa using e1, e2, e3.trans (List.sublist_append_right _ _), (List.Sublist.refl _).append e4, fun hn b hb hb' => ?_, fun q hq c' hp => by simpa using PwL.cons (hq _ _ _ h1) (e6 q hq c' hp)⟩
      rw [List.nodup_append] at hn
      rcases List.mem_append.1 hb' with hb' | hb'
      · exact hn.2.2 b hb' b (e3.subset hb) rfl
      · exact e5 hn.2.1 b hb hb'
/-- A cell in the midst is told otherwise, with blocks of its own. -/
theorem PwL.ins {cs : List V} {us : List Value} {f : List Nat} (h : PwL p cs us f) (j : Nat) {c' : V} {u : Value} {g : List Nat} (hu : us[j]? = some u) (hp : p c' u g) :
    ∃ f', PwL p (cs.set j c') us f' ∧ (∀ b, b ∈ f' → b ∈ f ∨ b ∈ g) ∧ (f.Nodup → g.Nodup → (∀ b, b ∈ g → b ∉ f) → f'.Nodup) := by
  induction cs generalizing us f j with
  | nil =>
    obtain ⟨rfl, rfl⟩ := h.nil_inv
    simp at hu
  | cons x cs ih =>
    obtain ⟨v, us', k, k', rfl, rfl, h1, h2⟩ := h.uncons
    cases j with
    | zero =>
      simp only [List.getElem?_cons_zero, Option.some.injEq] at hu
      subst hu
      refine ⟨g ++ k', by simpa using PwL.cons hp h2, fun b hb => ?_, fun hf hg hd => ?_⟩
      · rcases List.mem_append.1 hb with hb | hb
        · exact .inr hb
        · exact .inl (List.mem_append_right _ hb)
      · exact List.nodup_append.2 ⟨hg, (List.nodup_append.1 hf).2.1, fun b hb b' hb' e => by subst e; exact hd b hb (List.mem_append_right _ hb')⟩
    | succ j =>
      obtain ⟨f', e1, e2, e3⟩ := ih h2 j (by simpa using hu)
      refine ⟨k ++ f', by simpa using PwL.cons h1 e1, fun b hb => ?_, fun hf hg hd => ?_⟩
      · rcases List.mem_append.1 hb with hb | hb
        · exact .inl (List.mem_append_left _ hb)
        · exact (e2 b hb).imp (List.mem_append_right _) id
      · rw [List.nodup_append] at hf
        refine List.nodup_append.2 ⟨hf.1, e3 hf.2.1 hg (fun b hb hb' => hd b hb (List.mem_append_right _ hb')), fun b hb b' hb' e => ?_⟩
        subst e
        rcases e2 b hb' with hb2 | hb2
        · exact hf.2.2 b hb b hb2 rfl
        · exact hd b hb2 (List.mem_append_left _ hb)
end
section
variable {P : Program} {R R' : Nat → Value} {N N' : Nat} {I I' : Nat → Prop} {w w' : World} {t : Bool} {v : V} {u : Value} {f : List Nat}
theorem Own.lt {e sz n : Nat} {v : Value} {xs : List Value} (h : Own w e sz v n xs) : ∀ b, b ∈ fbOf v → b < w.heap.size := by
  obtain ⟨_, A, cap, rfl, _, h2⟩ := h
  intro b hb
  rcases h2 with rfl | ⟨g, o, cur, rfl, hg, _⟩
  · cases A <;> simp [fbOf] at hb
  · cases cap with
    | zero => simp [fbOf] at hb
    | succ cap => simp [fbOf] at hb; subst hb; exact hg.lt
theorem Own.step {e sz n : Nat} {v : Value} {xs : List Value} (h : Own w e sz v n xs) (hb : ∀ k, k ∈ fbOf v → w'.heap[k]? = w.heap[k]?) : Own w' e sz v n xs := by
  obtain ⟨h1, A, cap, rfl, h3, h4⟩ := h
  refine ⟨h1, A, cap, rfl, h3, ?_⟩
  rcases h4 with h4 | ⟨g, o, cur, rfl, hg, r⟩
  · exact .inl h4
  · cases cap with
    | zero => exact .inl rfl
    | succ cap => exact .inr ⟨g, o, cur, rfl, hg.same (hb g (by simp [fbOf])), r⟩
theorem Vw.step (h : Vw P I w v u) (hI : ∀ k, I k → w'.heap[k]? = w.heap[k]?) : Vw P I w' v u := by
  induction h with
  | un u => exact .un u
  | sc v h => exact .sc v h
  | nl e A => exact .nl e A
  | sl o e els A cap sz uss hs hz hl hm hn hI' hw hlen hc hr ih =>
    refine .sl o e els A cap sz uss hs hz hl hm hn hI' (fun ad had i us j u hus hu => ?_) hlen hc ih
    have hi : i < els.length := by rw [← hlen]; exact (List.getElem?_eq_some_iff.1 hus).1
    refine (World.cell?_of_block (w := w) ?_).trans (hw ad had i us j u hus hu)
    have : (ad.add (i * sz + j)).block = ad.block := by unfold Addr.add; split <;> rfl
    rw [this]
    exact hI _ (hI' ad had (by omega))
  | agg cs us hlen hr h1 ih => exact .agg cs us hlen ih h1
  | fn g cs us hlen hr ih => exact .fn g cs us hlen ih
  | cp cs ad us hI' hs hw hlen hr h1 ih => exact .cp cs ad us hI' hs (fun j x hx => (World.cell?_of_block (w := w) (a := ⟨ad.block, ad.off + j, none⟩) (hI _ hI')).trans (hw j x hx)) hlen ih h1
  | bx e cs ad us hI' hs hw hlen hr h1 ih => exact .bx e cs ad us hI' hs (fun j x hx => (World.cell?_of_block (w := w) (a := ⟨ad.block, ad.off + j, none⟩) (hI _ hI')).trans (hw j x hx)) hlen ih h1
theorem Vw.more (h : Vw P I w v u) (hI : ∀ k, I k → I' k) : Vw P I' w v u := by
  induction h with
  | un u => exact .un u
  | sc v h => exact .sc v h
  | nl e A => exact .nl e A
  | sl o e els A cap sz uss hs hz hl hm hn hI' hw hlen hc hr ih => exact .sl o e els A cap sz uss hs hz hl hm hn (fun ad had hp => hI _ (hI' ad had hp)) hw hlen hc ih
  | agg cs us hlen hr h1 ih => exact .agg cs us hlen ih h1
  | fn g cs us hlen hr ih => exact .fn g cs us hlen ih
  | cp cs ad us hI' hs hw hlen hr h1 ih => exact .cp cs ad us (hI _ hI') hs hw hlen ih h1
  | bx e cs ad us hI' hs hw hlen hr h1 ih => exact .bx e cs ad us (hI _ hI') hs hw hlen ih h1
/-- What a value reads as stays, where its own blocks and those that may be read stay. -/
theorem Rel.step (h : Rel P I w R N t v u f) (hI : ∀ k, I k → w'.heap[k]? = w.heap[k]?) (hf : ∀ k, k ∈ f → w'.heap[k]? = w.heap[k]?) : Rel P I w' R N t v u f := by
  induction h with
  | leaf t v u hb h => exact .leaf t v u hb (h.step hI)
  | row t e els v sz uss fss hs hz ho hlen hfl hc hr ih =>
    refine .row t e els v sz uss fss hs hz (ho.step (fun k hk => hf k (List.mem_append_left _ hk))) hlen hfl hc (fun i x us fs j c u f h1 h2 h3 h4 h5 h6 => ih i x us fs j c u f h1 h2 h3 h4 h5 h6 (fun k hk => hf k (List.mem_append_right _ ?_)))
    exact List.mem_flatten.2 ⟨fs.flatten, List.mem_map.2 ⟨fs, List.mem_of_getElem? h3, rfl⟩, flatten_mem h6 hk⟩
  | agg t cs us fs hlen hfl hr h1 ih => exact .agg t cs us fs hlen hfl (fun j c x g hc hx hg => ih j c x g hc hx hg (fun k hk => hf k (flatten_mem hg hk))) h1
  | tup t cs us fs hlen hfl hr ih => exact .tup t cs us fs hlen hfl (fun j c x g hc hx hg => ih j c x g hc hx hg (fun k hk => hf k (flatten_mem hg hk)))
  | fn t g cs us hnt hlen hr ih => exact .fn t g cs us hnt hlen (fun j c x hc hx => ih j c x hc hx (by simp))
  | ptr n off g hn hR => exact .ptr n off g hn hR
  | ow n hn L cap A hR => exact .ow n hn L cap A hR
  | ep n sz i off g o L cap hn hR => exact .ep n sz i off g o L cap hn hR
  | sb n sz lo len A A' L cap hn hR hl hA => exact .sb n sz lo len A A' L cap hn hR hl hA
  | mp n g hn hR => exact .mp n g hn hR
  | bx t e cs g us fs hg hlen hfl hr h1 ih => exact .bx t e cs g us fs ((hf g (by simp)).trans hg) hlen hfl (fun j c x g hc hx hg => ih j c x g hc hx hg (fun k hk => hf k (List.mem_cons_of_mem _ (flatten_mem hg hk)))) h1
/-- Its own blocks are there. -/
theorem Rel.lt (h : Rel P I w R N t v u f) : ∀ k, k ∈ f → k < w.heap.size := by
  induction h with
  | leaf | fn | ptr | ow | ep | sb | mp => intro k hk; simp at hk
  | row t e els v sz uss fss hs hz ho hlen hfl hc hr ih =>
    intro k hk
    rcases List.mem_append.1 hk with hk | hk
    · exact ho.lt k hk
    · obtain ⟨g, hg, hk⟩ := List.mem_flatten.1 hk
      obtain ⟨fs, hfs, rfl⟩ := List.mem_map.1 hg
      obtain ⟨f, hf, hk⟩ := List.mem_flatten.1 hk
      obtain ⟨i, hi, rfl⟩ := List.mem_iff_getElem.1 hfs
      obtain ⟨j, hj, rfl⟩ := List.mem_iff_getElem.1 hf
      obtain ⟨c1, c2, c3, _⟩ := hc i _ _ _ (List.getElem?_eq_getElem (by omega)) (List.getElem?_eq_getElem (by omega)) (List.getElem?_eq_getElem hi)
      exact ih i _ _ _ j _ _ _ (List.getElem?_eq_getElem (by omega)) (List.getElem?_eq_getElem (by omega)) (List.getElem?_eq_getElem hi) (List.getElem?_eq_getElem (by omega)) (List.getElem?_eq_getElem (by omega)) (List.getElem?_eq_getElem hj) k hk
  | agg t cs us fs hlen hfl hr h1 ih =>
    intro k hk
    obtain ⟨g, hg, hk⟩ := List.mem_flatten.1 hk
    obtain ⟨j, hj, rfl⟩ := List.mem_iff_getElem.1 hg
    exact ih j _ _ _ (List.getElem?_eq_getElem (by omega)) (List.getElem?_eq_getElem (by omega)) (List.getElem?_eq_getElem hj) k hk
  | tup t cs us fs hlen hfl hr ih =>
    intro k hk
    obtain ⟨g, hg, hk⟩ := List.mem_flatten.1 hk
    obtain ⟨j, hj, rfl⟩ := List.mem_iff_getElem.1 hg
    exact ih j _ _ _ (List.getElem?_eq_getElem (by omega)) (List.getElem?_eq_getElem (by omega)) (List.getElem?_eq_getElem hj) k hk
  | bx t e cs g us fs hg hlen hfl hr h1 ih =>
    intro k hk
    rcases List.mem_cons.1 hk with rfl | hk
    · exact (Array.getElem?_eq_some_iff.1 hg).1
    · obtain ⟨g, hg, hk⟩ := List.mem_flatten.1 hk
      obtain ⟨j, hj, rfl⟩ := List.mem_iff_getElem.1 hg
      exact ih j _ _ _ (List.getElem?_eq_getElem (by omega)) (List.getElem?_eq_getElem (by omega)) (List.getElem?_eq_getElem hj) k hk
/-- What names nothing of the frame may be told in any frame. -/
theorem Rel.shut' (h : Rel P I w R N t v u f) : t = false → ∀ R' N', Rel P I w R' N' false v u f := by
  induction h with
  | leaf t v u hb h => exact fun _ R' N' => .leaf false v u hb h
  | row t e els v sz uss fss hs hz ho hlen hfl hc hr ih => exact fun _ R' N' => .row false e els v sz uss fss hs hz ho hlen hfl hc (fun i x us fs j c u f h1 h2 h3 h4 h5 h6 => ih i x us fs j c u f h1 h2 h3 h4 h5 h6 rfl R' N')
  | agg t cs us fs hlen hfl hr h1 ih => exact fun ht R' N' => .agg false cs us fs hlen hfl (fun j c x g hc hx hg => ih j c x g hc hx hg ht R' N') h1
  | tup t cs us fs hlen hfl hr ih => exact fun ht R' N' => .tup false cs us fs hlen hfl (fun j c x g hc hx hg => ih j c x g hc hx hg ht R' N')
  | fn t g cs us hnt hlen hr ih => exact fun ht R' N' => .fn false g cs us hnt hlen (fun j c x hc hx => ih j c x hc hx ht R' N')
  | ptr | ow | ep | sb | mp => exact fun ht => by cases ht
  | bx t e cs g us fs hg hlen hfl hr h1 ih => exact fun _ R' N' => .bx false e cs g us fs hg hlen hfl (fun j c x g hc hx hg => ih j c x g hc hx hg rfl R' N') h1
theorem Rel.shut (h : Rel P I w R N false v u f) : Rel P I w R' N' false v u f := h.shut' rfl R' N'
/-- What is closed may stand where names may stand. -/
theorem Rel.weak' (h : Rel P I w R N t v u f) : t = false → ∀ t' R' N', Rel P I w R' N' t' v u f := by
  induction h with
  | leaf t v u hb h => exact fun _ t' R' N' => .leaf t' v u hb h
  | row t e els v sz uss fss hs hz ho hlen hfl hc hr ih => exact fun _ t' R' N' => .row t' e els v sz uss fss hs hz ho hlen hfl hc (fun i x us fs j c u f h1 h2 h3 h4 h5 h6 => ih i x us fs j c u f h1 h2 h3 h4 h5 h6 rfl false R' N')
  | agg t cs us fs hlen hfl hr h1 ih => exact fun ht t' R' N' => .agg t' cs us fs hlen hfl (fun j c x g hc hx hg => ih j c x g hc hx hg ht t' R' N') h1
  | tup t cs us fs hlen hfl hr ih => exact fun ht t' R' N' => .tup t' cs us fs hlen hfl (fun j c x g hc hx hg => ih j c x g hc hx hg ht t' R' N')
  | fn t g cs us hnt hlen hr ih => exact fun ht t' R' N' => .fn t' g cs us hnt hlen (fun j c x hc hx => ih j c x hc hx ht t' R' N')
  | ptr | ow | ep | sb | mp => exact fun ht => by cases ht
  | bx t e cs g us fs hg hlen hfl hr h1 ih => exact fun _ t' R' N' => .bx t' e cs g us fs hg hlen hfl (fun j c x g hc hx hg => ih j c x g hc hx hg rfl false R' N') h1
theorem Rel.weak (h : Rel P I w R N false v u f) (t' : Bool) : Rel P I w R' N' t' v u f := h.weak' rfl t' R' N'
/-- What is closed may stand where names may stand. -/
theorem Rel.openRow {e : Nat} {els : List V} (h : Rel P I w R N t (.sl true e els) u f) (t' : Bool) : Rel P I w R' N' t' (.sl true e els) u f := by
  generalize hv : V.sl true e els = x at h
  cases h with
  | leaf _ _ _ hb => subst hv; simp [V.leafB] at hb
  | row _ e els v sz uss fss hs hz ho hlen hfl hc hr => exact .row t' e els u sz uss fss hs hz ho hlen hfl hc (fun i x us fs j c u f h1 h2 h3 h4 h5 h6 => (hr i x us fs j c u f h1 h2 h3 h4 h5 h6).shut)
  | _ => cases hv
theorem Rel.vw_leaf (h : Rel P I w R N t v u f) (hb : v.leafB = true) : Vw P I w v u ∧ f = [] := by
  cases h with
  | leaf _ _ _ _ h => exact ⟨h, rfl⟩
  | _ => simp [V.leafB] at hb
/-- More may be read. -/
theorem Rel.more (h : Rel P I w R N t v u f) (hI : ∀ k, I k → I' k) : Rel P I' w R N t v u f := by
  induction h with
  | leaf t v u hb h => exact .leaf t v u hb (h.more hI)
  | row t e els v sz uss fss hs hz ho hlen hfl hc hr ih => exact .row t e els v sz uss fss hs hz ho hlen hfl hc ih
  | agg t cs us fs hlen hfl hr h1 ih => exact .agg t cs us fs hlen hfl ih h1
  | tup t cs us fs hlen hfl hr ih => exact .tup t cs us fs hlen hfl ih
  | fn t g cs us hnt hlen hr ih => exact .fn t g cs us hnt hlen ih
  | ptr n off g hn hR => exact .ptr n off g hn hR
  | ow n hn L cap A hR => exact .ow n hn L cap A hR
  | ep n sz i off g o L cap hn hR => exact .ep n sz i off g o L cap hn hR
  | sb n sz lo len A A' L cap hn hR hl hA => exact .sb n sz lo len A A' L cap hn hR hl hA
  | mp n g hn hR => exact .mp n g hn hR
  | bx t e cs g us fs hg hlen hfl hr h1 ih => exact .bx t e cs g us fs hg hlen hfl ih h1
/-- Names may be more, those that there are stay. -/
theorem Rel.env (h : Rel P I w R N t v u f) (hN : N ≤ N') (hR : ∀ n, n < N → R' n = R n) : Rel P I w R' N' t v u f := by
  induction h with
  | leaf t v u hb h => exact .leaf t v u hb h
  | row t e els v sz uss fss hs hz ho hlen hfl hc hr ih => exact .row t e els v sz uss fss hs hz ho hlen hfl hc ih
  | agg t cs us fs hlen hfl hr h1 ih => exact .agg t cs us fs hlen hfl ih h1
  | tup t cs us fs hlen hfl hr ih => exact .tup t cs us fs hlen hfl ih
  | fn t g cs us hnt hlen hr ih => exact .fn t g cs us hnt hlen ih
  | ptr n off g hn hR' => exact .ptr n off g (by omega) (by rw [hR n hn]; exact hR')
  | ow n hn L cap A hR' => exact .ow n (by omega) L cap A (by rw [hR n hn]; exact hR')
  | ep n sz i off g o L cap hn hR' => exact .ep n sz i off g o L cap (by omega) (by rw [hR n hn]; exact hR')
  | sb n sz lo len A A' L cap hn hR' hl hA => exact .sb n sz lo len A A' L cap (by omega) (by rw [hR n hn]; exact hR') hl hA
  | mp n g hn hR' => exact .mp n g (by omega) (by rw [hR n hn]; exact hR')
  | bx t e cs g us fs hg hlen hfl hr h1 ih => exact .bx t e cs g us fs hg hlen hfl ih h1
/-- An element of a row of one's own: its cells. -/
def ElR (P : Program) (I : Nat → Prop) (w : World) (R : Nat → Value) (N : Nat) (t : Bool) (sz : Nat) (x : V) (us : List Value) (f : List Nat) : Prop :=
  x.cells.length = sz ∧ us.length = sz ∧ (∀ u ∈ us, u.oneCell' = true) ∧ RelL P I w R N t x.cells us f
theorem Rel.row_inv {e : Nat} {els : List V} (h : Rel P I w R N t (.sl true e els) u f) :
    ∃ (sz : Nat) (uss : List (List Value)) (ffs : List (List Nat)), szOf P e = some sz ∧ 0 < sz ∧ Own w e sz u els.length uss.flatten ∧ uss.length = els.length ∧ ffs.length = els.length ∧
      (∀ (i : Nat) (x : V) (us : List Value) (f : List Nat), els[i]? = some x → uss[i]? = some us → ffs[i]? = some f → ElR P I w R' N' false sz x us f) ∧ f = fbOf u ++ ffs.flatten := by
  generalize hv : V.sl true e els = x at h
  cases h with
  | leaf _ _ _ hb => subst hv; simp [V.leafB] at hb
  | row _ e els v sz uss fss hs hz ho hlen hfl hc hr =>
    cases hv
    refine ⟨sz, uss, fss.map List.flatten, hs, hz, ho, hlen, by simpa using hfl, fun i x us f h1 h2 h3 => ?_, rfl⟩
    rw [List.getElem?_map] at h3
    cases hfs : fss[i]? with
    | none => simp [hfs] at h3
    | some fs =>
      simp only [hfs, Option.map_some, Option.some.injEq] at h3
      subst h3
      obtain ⟨c1, c2, c3, c4⟩ := hc i x us fs h1 h2 hfs
      exact ⟨c1, c2, c4, fs, by omega, by omega, rfl, fun j c u g hc hu hg => (hr i x us fs j c u g h1 h2 hfs hc hu hg).shut⟩
  | _ => cases hv
theorem choose_list {α β : Type} {p : Nat → α → β → Prop} : ∀ (l : List α), (∀ i x, l[i]? = some x → ∃ y, p i x y) → ∃ m : List β, m.length = l.length ∧ ∀ i x y, l[i]? = some x → m[i]? = some y → p i x y
  | [], _ => ⟨[], rfl, fun i x y h => by simp at h⟩
  | a :: l, h => by
    obtain ⟨y, hy⟩ := h 0 a rfl
    obtain ⟨m, h1, h2⟩ := choose_list (p := fun i => p (i + 1)) l (fun i x hx => h (i + 1) x (by simpa using hx))
    refine ⟨y :: m, by simp [h1], fun i x y' hx hy' => ?_⟩
    cases i with
    | zero => simp at hx hy'; subst hx hy'; exact hy
    | succ i => exact h2 i x y' (by simpa using hx) (by simpa using hy')
theorem Rel.row_mk {e : Nat} {els : List V} {sz : Nat} {uss : List (List Value)} {ffs : List (List Nat)} (t : Bool) (hs : szOf P e = some sz) (hz : 0 < sz) (ho : Own w e sz u els.length uss.flatten) (hlen : uss.length = els.length) (hfl : ffs.length = els.length)
    (hr : ∀ (i : Nat) (x : V) (us : List Value) (f : List Nat), els[i]? = some x → uss[i]? = some us → ffs[i]? = some f → ElR P I w R N false sz x us f) : Rel P I w R' N' t (.sl true e els) u (fbOf u ++ ffs.flatten) := by
  obtain ⟨fss, h1, h2⟩ := choose_list (p := fun i f (fs : List (List Nat)) => ∀ x us, els[i]? = some x → uss[i]? = some us → x.cells.length = us.length ∧ fs.length = us.length ∧ f = fs.flatten ∧ ∀ (j : Nat) (c : V) (u : Value) (g : List Nat), x.cells[j]? = some c → us[j]? = some u → fs[j]? = some g → Rel P I w R N false c u g) ffs (fun i f hf => by
    have hi : i < els.length := by rw [← hfl]; exact (List.getElem?_eq_some_iff.1 hf).1
    obtain ⟨_, _, _, fs, q⟩ := hr i _ _ f (List.getElem?_eq_getElem hi) (List.getElem?_eq_getElem (by omega)) hf
    refine ⟨fs, fun x us hx hus => ?_⟩
    rw [List.getElem?_eq_getElem hi] at hx
    rw [List.getElem?_eq_getElem (by omega)] at hus
    obtain rfl := Option.some.inj hx
    obtain rfl := Option.some.inj hus
    exact q)
  have hff : ffs = fss.map List.flatten := by
    apply List.ext_getElem?
    intro i
    rw [List.getElem?_map]
    rcases Nat.lt_or_ge i els.length with hi | hi
    · have := (h2 i _ _ (List.getElem?_eq_getElem (by omega)) (List.getElem?_eq_getElem (by omega)) _ _ (List.getElem?_eq_getElem hi) (List.getElem?_eq_getElem (by omega))).2.2.1
      rw [List.getElem?_eq_getElem (by omega), List.getElem?_eq_getElem (by omega), this]
      rfl
    · rw [List.getElem?_eq_none (by omega), List.getElem?_eq_none (by omega)]
      rfl
  have hlt : ∀ {i : Nat} {x : V}, els[i]? = some x → i < els.length := fun h => (List.getElem?_eq_some_iff.1 h).1
  rw [hff]
  refine .row t e els u sz uss fss hs hz ho hlen (by omega) (fun i x us fs hx hus hfs => ?_) (fun i x us fs j c v g hx hus hfs hc hu hg => ?_)
  · have hi := hlt hx
    obtain ⟨a1, a2, a3, _⟩ := hr i x us _ hx hus (List.getElem?_eq_getElem (by omega))
    obtain ⟨b1, b2, _, _⟩ := h2 i _ _ (List.getElem?_eq_getElem (by omega)) hfs x us hx hus
    exact ⟨a1, a2, by omega, a3⟩
  · have hi := hlt hx
    obtain ⟨_, _, _, b4⟩ := h2 i _ _ (List.getElem?_eq_getElem (by omega)) hfs x us hx hus
    exact (b4 j c v g hc hu hg).shut
theorem Rel.agg_inv {cs : List V} (h : Rel P I w R N t (.agg cs) u f) : ∃ us : List Value, u = .agg us.toArray ∧ RelL P I w R N t cs us f ∧ ∀ x ∈ us, x.oneCell' = true := by
  cases h with
  | leaf _ _ _ hb => simp [V.leafB] at hb
  | agg _ _ us fs hlen hf hr h1 => exact ⟨us, rfl, ⟨fs, hlen, hf, rfl, hr⟩, h1⟩
theorem Rel.agg_mk {cs : List V} {us : List Value} (h : RelL P I w R N t cs us f) (h1 : ∀ x ∈ us, x.oneCell' = true) : Rel P I w R N t (.agg cs) (.agg us.toArray) f := by
  obtain ⟨fs, a, b, rfl, c⟩ := h
  exact .agg t cs us fs a b c h1
theorem Rel.tup_inv {cs : List V} (h : Rel P I w R N t (.tup cs) u f) : ∃ us : List Value, u = .tuple us.toArray ∧ RelL P I w R N t cs us f := by
  cases h with
  | leaf _ _ _ hb => simp [V.leafB] at hb
  | tup _ _ us fs hlen hf hr => exact ⟨us, rfl, fs, hlen, hf, rfl, hr⟩
theorem Rel.tup_mk {cs : List V} {us : List Value} (h : RelL P I w R N t cs us f) : Rel P I w R N t (.tup cs) (.tuple us.toArray) f := by
  obtain ⟨fs, a, b, rfl, c⟩ := h
  exact .tup t cs us fs a b c
theorem Rel.bx_inv {e : Nat} {cs : List V} (h : Rel P I w R N t (.bx e cs) u f) : ∃ (g : Nat) (us : Array Value) (k : List Nat), u = .pointer (some ⟨g, 0, none⟩) ∧ w.heap[g]? = some (.cells us e (0, 0)) ∧ f = g :: k ∧ RelL P I w R' N' false cs us.toList k ∧ ∀ x ∈ us.toList, x.oneCell' = true := by
  cases h with
  | leaf _ _ _ hb => simp [V.leafB] at hb
  | bx _ _ _ g us fs hg hlen hf hr h1 => exact ⟨g, us, fs.flatten, rfl, hg, rfl, ⟨fs, hlen, hf, rfl, fun j c u g a b d => (hr j c u g a b d).shut⟩, h1⟩
theorem Rel.bx_mk {e g : Nat} {cs : List V} {us : Array Value} (hg : w.heap[g]? = some (.cells us e (0, 0))) (h : RelL P I w R N false cs us.toList f) (h1 : ∀ x ∈ us.toList, x.oneCell' = true) : Rel P I w R N t (.bx e cs) (.pointer (some ⟨g, 0, none⟩)) (g :: f) := by
  obtain ⟨fs, a, b, rfl, c⟩ := h
  exact .bx t e cs g us fs hg a b c h1
theorem RelL.step {cs : List V} {us : List Value} (h : RelL P I w R N t cs us f) (hI : ∀ k, I k → w'.heap[k]? = w.heap[k]?) (hf : ∀ k, k ∈ f → w'.heap[k]? = w.heap[k]?) : RelL P I w' R N t cs us f :=
  h.mono fun c u g _ _ hg h => h.step hI (fun k hk => hf k (hg k hk))
theorem RelL.shut {cs : List V} {us : List Value} (h : RelL P I w R N false cs us f) : RelL P I w R' N' false cs us f := h.mono fun c u g _ _ _ h => h.shut
theorem RelL.env {cs : List V} {us : List Value} (h : RelL P I w R N t cs us f) (hN : N ≤ N') (hR : ∀ n, n < N → R' n = R n) : RelL P I w R' N' t cs us f := h.mono fun c u g _ _ _ h => h.env hN hR
theorem RelL.more {cs : List V} {us : List Value} (h : RelL P I w R N t cs us f) (hI : ∀ k, I k → I' k) : RelL P I' w R N t cs us f := h.mono fun c u g _ _ _ h => h.more hI
theorem ElR.step {sz : Nat} {x : V} {us : List Value} (h : ElR P I w R N t sz x us f) (hI : ∀ k, I k → w'.heap[k]? = w.heap[k]?) (hf : ∀ k, k ∈ f → w'.heap[k]? = w.heap[k]?) : ElR P I w' R N t sz x us f := ⟨h.1, h.2.1, h.2.2.1, RelL.step h.2.2.2 hI hf⟩
theorem ElR.env {sz : Nat} {x : V} {us : List Value} (h : ElR P I w R N t sz x us f) (hN : N ≤ N') (hR : ∀ n, n < N → R' n = R n) : ElR P I w R' N' t sz x us f := ⟨h.1, h.2.1, h.2.2.1, RelL.env h.2.2.2 hN hR⟩
theorem RelL.weak {cs : List V} {us : List Value} (h : RelL P I w R N false cs us f) (t : Bool) : RelL P I w R' N' t cs us f := h.mono fun c u g _ _ _ h => h.weak t
theorem ElR.weak {sz : Nat} {x : V} {us : List Value} (h : ElR P I w R N false sz x us f) (t : Bool) : ElR P I w R' N' t sz x us f := ⟨h.1, h.2.1, h.2.2.1, RelL.weak h.2.2.2 t⟩
theorem ElR.shut {sz : Nat} {x : V} {us : List Value} (h : ElR P I w R N false sz x us f) : ElR P I w R' N' false sz x us f := ⟨h.1, h.2.1, h.2.2.1, RelL.shut h.2.2.2⟩
theorem flat_one {v : Value} (h : flatB v = true) : v.oneCell' = true := by
  unfold flatB at h
  split at h <;> first | rfl | simp at h
/-- Elements in a row: their cells. -/
theorem flatten_len {α : Type} {uss : List (List α)} {sz : Nat} (h : ∀ us ∈ uss, us.length = sz) : uss.flatten.length = uss.length * sz := by
  induction uss with
  | nil => simp
  | cons x uss ih =>
    rw [List.flatten_cons, List.length_append, h x (by simp), ih (fun y hy => h y (by simp [hy])), List.length_cons, Nat.add_mul]
    omega
theorem flatten_get {α : Type} {uss : List (List α)} {sz : Nat} (h : ∀ us ∈ uss, us.length = sz) {i j : Nat} {us : List α} (hi : uss[i]? = some us) (hj : j < sz) : uss.flatten[i * sz + j]? = us[j]? := by
  induction uss generalizing i with
  | nil => simp at hi
  | cons x uss ih =>
    have hx := h x (by simp)
    cases i with
    | zero =>
      simp only [List.getElem?_cons_zero, Option.some.injEq] at hi
      subst hi
      rw [List.flatten_cons, List.getElem?_append_left (by omega)]
      simp
    | succ i =>
      rw [List.flatten_cons, List.getElem?_append_right (by rw [Nat.add_mul]; omega)]
      rw [show (i + 1) * sz + j - x.length = i * sz + j by rw [Nat.add_mul]; omega]
      exact ih (fun y hy => h y (by simp [hy])) (by simpa using hi)
theorem flatten_inv {α : Type} {uss : List (List α)} {sz : Nat} (h : ∀ us ∈ uss, us.length = sz) {k : Nat} {u : α} (hk : uss.flatten[k]? = some u) : ∃ us, uss[k / sz]? = some us ∧ us[k % sz]? = some u ∧ k % sz < sz := by
  have hl := flatten_len h
  have hk' : k < uss.length * sz := by rw [← hl]; exact (List.getElem?_eq_some_iff.1 hk).1
  have hp : 0 < sz := by
    rcases Nat.eq_zero_or_pos sz with h | h
    · subst h; simp at hk'
    · exact h
  have hq : k / sz < uss.length := (Nat.div_lt_iff_lt_mul hp).2 hk'
  have hm : k % sz < sz := Nat.mod_lt _ hp
  have e : k = (k / sz) * sz + k % sz := by rw [Nat.mul_comm]; exact (Nat.div_add_mod k sz).symm
  have := flatten_get h (List.getElem?_eq_getElem hq) hm
  rw [← e, hk] at this
  exact ⟨_, List.getElem?_eq_getElem hq, this.symm, hm⟩
end
end Go.Proofs.YtdahdpnkppknfaaGreatDoorM
