/- What comes in at a type of the program is told as plain data, with a bound at each of its parts; a law that returns true. Conditions: the type's rows, one for each kind. -/
import Derived.ChangeArms
import Derived.ChangeOld
import Derived.DataReads
import Derived.ChangeSlices
import Derived.WideShapes
import Derived.SizedLaws
import Derived.Below
import Derived.Test.YtdahdpnkppknfaaGreatDoorM18
namespace Go.Proofs.YtdahdpnkppknfaaGreatDoorM
set_option linter.unusedVariables false
set_option linter.unusedSimpArgs false
open Go.ChangeShapes Go.WideShapes Go.RowKit

/-- These cells read so, whatever lies in memory being kept. -/
def CellsV (P : Program) (w : World) (vs : List V) (us : List Value) : Prop :=
  vs.length = us.length ∧ (∀ (j : Nat) (c : V) (u : Value), vs[j]? = some c → us[j]? = some u → Vw P (fun b => b < w.heap.size) w c u) ∧ ∀ u ∈ us, u.oneCell' = true
theorem CellsV.one {P : Program} {w : World} {c : V} {u : Value} (h : Vw P (fun b => b < w.heap.size) w c u) (h1 : u.oneCell' = true) : CellsV P w [c] [u] :=
  ⟨rfl, fun j c' u' hc hu => by
    cases j with
    | zero => simp at hc hu; subst hc hu; exact h
    | succ j => simp at hc, fun x hx => by simp at hx; subst hx; exact h1⟩
theorem CellsV.app {P : Program} {w : World} {vs vs' : List V} {us us' : List Value} (h : CellsV P w vs us) (h' : CellsV P w vs' us') : CellsV P w (vs ++ vs') (us ++ us') :=
  ⟨by simp [h.1, h'.1], fun j c u hc hu => by
    by_cases hj : j < vs.length
    · rw [List.getElem?_append_left hj] at hc
      rw [List.getElem?_append_left (by rw [← h.1]; exact hj)] at hu
      exact h.2.1 j c u hc hu
    · rw [List.getElem?_append_right (by omega)] at hc
      rw [List.getElem?_append_right (by rw [← h.1]; omega), ← h.1] at hu
      exact h'.2.1 _ c u hc hu, fun x hx => by
    rcases List.mem_append.1 hx with hx | hx
    · exact h.2.2 x hx
    · exact h'.2.2 x hx⟩
theorem cell_lt {w : World} {a : Addr} {u : Value} (h : w.cell? a = some u) : a.block < w.heap.size := by
  rcases Nat.lt_or_ge a.block w.heap.size with h' | h'
  · exact h'
  · simp [World.cell?, Array.getElem?_eq_none h'] at h
theorem add_block (a : Addr) (i : Nat) : (a.add i).block = a.block := by
  obtain ⟨b, o, p⟩ := a
  by_cases hi : i = 0 <;> simp [Addr.add, hi]
theorem add_add (a : Addr) (i j : Nat) : (a.add i).add j = a.add (i + j) := by
  obtain ⟨b, o, p⟩ := a
  by_cases hi : i = 0 <;> by_cases hj : j = 0 <;> simp [Addr.add, Nat.add_assoc, hi, hj]
/-- A number of such a kind. -/
def Wi (k : IntKind) (x : Int) : Prop := (Lit.int k x).wf = true
def Wb (_ : Bool) : Prop := True
def Ws (s : ByteArray) : Prop := s.size ≤ 140737488351232
def Wl {α : Type} (b : Nat) (B : α → Prop) (xs : List α) : Prop := xs.length * b ≤ 140737488351232 ∧ ∀ x ∈ xs, B x
/-- Whatever is read at type t is told by f, of plain data that meet B. -/
structure OpensV {α : Type} (P : Program) (t : TypeId) (f : α → V) (B : α → Prop) : Prop where
  size : ∀ x, (f x).cells.length = P.cellsOf t
  reads : ∀ {H : Type} (enc : TypeId × Value → H) (w : World) (spare : Nat → Bool) (held : Bool) (fuel : Nat) (cs : List Value) (x : DataW H × List MemPlace),
    DataW.trod enc P w 0 spare held fuel t cs = some x → (x.1.weights P t).all (· ≤ reachBytes) = true → ∃ y, CellsV P w (f y).cells cs ∧ B y
theorem opensV_int {P : Program} {t : TypeId} {k : IntKind} (ht : P.underlying t = some (.int k)) (hz : P.cellsOf t = 1) : OpensV P t (fun x => .sc (.int k x)) (Wi k) :=
  ⟨fun _ => hz.symm, fun enc w sp hd f cs x hx _ => by
    obtain ⟨n, rfl, rfl, hn⟩ := DataW.trod_int ht hx
    exact ⟨n, .one (.sc _ rfl) rfl, hn⟩⟩
theorem opensV_bool {P : Program} {t : TypeId} (ht : P.underlying t = some .bool) (hz : P.cellsOf t = 1) : OpensV P t (fun x => .sc (.bool x)) Wb :=
  ⟨fun _ => hz.symm, fun enc w sp hd f cs x hx _ => by
    obtain ⟨n, rfl, rfl⟩ := DataW.trod_bool ht hx
    exact ⟨n, .one (.sc _ rfl) rfl, trivial⟩⟩
theorem opensV_string {P : Program} {t : TypeId} (ht : P.underlying t = some .string) (hz : P.cellsOf t = 1) : OpensV P t (fun x => .sc (.string x)) Ws :=
  ⟨fun _ => hz.symm, fun enc w sp hd f cs x hx hw => by
    obtain ⟨s, rfl, rfl, _⟩ := DataW.trod_string ht hx
    refine ⟨s, .one (.sc _ rfl) rfl, ?_⟩
    simp [DataW.weights, reachBytes] at hw
    show s.size ≤ 140737488351232
    exact of_decide_eq_true hw⟩
theorem wAll_get {H : Type} {P : Program} {e : TypeId} : ∀ {l : List (DataW H)} {i : Nat} {y : DataW H}, (DataW.weightsAll P e l).all (· ≤ reachBytes) = true → l[i]? = some y → (y.weights P e).all (· ≤ reachBytes) = true
  | [], _, _, _, h => by simp at h
  | a :: l, 0, y, h, hy => by
    simp only [DataW.weightsAll, List.all_append, Bool.and_eq_true] at h
    simp at hy
    subst hy
    exact h.1
  | a :: l, i + 1, y, h, hy => by
    simp only [DataW.weightsAll, List.all_append, Bool.and_eq_true] at h
    exact wAll_get h.2 (by simpa using hy)
theorem chooseL {α β : Type} {Q : Nat → α → β → Prop} : ∀ (l : List β) (s : Nat), (∀ i y, l[i]? = some y → ∃ x, Q (s + i) x y) → ∃ xs : List α, xs.length = l.length ∧ ∀ i x y, xs[i]? = some x → l[i]? = some y → Q (s + i) x y
  | [], s, _ => ⟨[], rfl, fun i x y h => by simp at h⟩
  | b :: l, s, h => by
    obtain ⟨x0, h0⟩ := h 0 b rfl
    obtain ⟨xs, hl, hr⟩ := chooseL (Q := Q) l (s + 1) (fun i y hy => by
      obtain ⟨x, hx⟩ := h (i + 1) y (by simpa using hy)
      exact ⟨x, by rw [show s + 1 + i = s + (i + 1) by omega]; exact hx⟩)
    refine ⟨x0 :: xs, by simp [hl], ?_⟩
    intro i x y hx hy
    cases i with
    | zero =>
      simp at hx hy
      subst hx hy
      exact h0
    | succ i =>
      rw [show s + (i + 1) = s + 1 + i by omega]
      exact hr i x y (by simpa using hx) (by simpa using hy)
theorem opensV_slice {α : Type} {P : Program} {t e : TypeId} {f : α → V} {B : α → Prop} {b sz : Nat} (ht : P.underlying t = some (.slice e)) (hz : P.cellsOf t = 1) (hb : P.bytesOf e = b) (hs : szOf P e = some sz) (hcz : P.cellsOf e = sz) (hp : 0 < sz) (h : OpensV P e f B) :
    OpensV P t (fun xs => .sl true e (List.map f xs)) (Wl b B) :=
  ⟨fun _ => hz.symm, fun enc w sp hd fu cs x hx hw => by
    rcases DataW.trod_slice ht hx with ⟨rfl, rfl⟩ | ⟨a, len, cap, elems, rest, n, rfl, rfl, rfl, hba, hl, hm, hlen, hel, hsp, hns⟩
    · exact ⟨[], .one (.sl true e [] none 0 sz [] hs hp (by simp) (by simp) (fun _ => rfl) (fun ad had hp => by simp at hp) (fun ad had i us j u hus => by simp at hus) rfl (fun i x us hx => by simp at hx) (fun i x us j c u hx => by simp at hx)) rfl, by simp [Wl]⟩
    · simp only [DataW.weights, ht, List.all_cons, List.all_append, Bool.and_eq_true, List.length_map] at hw
      obtain ⟨hw0, hw1, _⟩ := hw
      replace hw0 := of_decide_eq_true hw0
      unfold reachBytes at hw0
      rw [hb] at hw0
      rw [hcz] at hel
      obtain ⟨ps, hpl, hps⟩ := chooseL (Q := fun i (p : α × List Value) (_ : DataW _ × List MemPlace) => w.cells? 0 (a.add (i * sz)) sz = some p.2 ∧ CellsV P w (f p.1).cells p.2 ∧ B p.1) elems 0 (fun i y hy => by
        have hi : i < len := by
          have := (List.getElem?_eq_some_iff.1 hy).1
          omega
        have he := hel i hi
        rw [hy] at he
        simp only [Option.bind_eq_some_iff] at he
        obtain ⟨c, hc, ht'⟩ := he
        obtain ⟨x, hk, hB⟩ := h.reads enc w sp hd n c y ht' (wAll_get (i := i) hw1 (by rw [List.getElem?_map, hy]; rfl))
        exact ⟨(x, c), by simpa using hc, hk, hB⟩)
      have hall : ∀ (i : Nat) (p : α × List Value), ps[i]? = some p → w.cells? 0 (a.add (i * sz)) sz = some p.2 ∧ CellsV P w (f p.1).cells p.2 ∧ B p.1 := by
        intro i p hp'
        have hi : i < elems.length := by
          have := (List.getElem?_eq_some_iff.1 hp').1
          omega
        have := hps i p _ hp' (List.getElem?_eq_getElem hi)
        simpa using this
      have hxlen : (List.map f (ps.map (·.1))).length = len := by simp; omega
      have hgx : ∀ (i : Nat) (x : V) (us : List Value), (List.map f (ps.map (·.1)))[i]? = some x → (ps.map (·.2))[i]? = some us → ∃ p, ps[i]? = some p ∧ x = f p.1 ∧ us = p.2 := fun i x us hx hu => by
        rw [List.getElem?_map, List.getElem?_map] at hx
        rw [List.getElem?_map] at hu
        cases hp' : ps[i]? with
        | none => simp [hp'] at hu
        | some p => simp [hp'] at hx hu; exact ⟨p, rfl, hx.symm, hu.symm⟩
      have hcell : ∀ (i : Nat) (p : α × List Value) (j : Nat) (u : Value), ps[i]? = some p → p.2[j]? = some u → w.cell? (a.add (i * sz + j)) = some u := fun i p j u hp' hu => by
        obtain ⟨hc, hk, _⟩ := hall i p hp'
        obtain ⟨_, hcl, hcc⟩ := World.cells?_some hc
        have hj : j < p.2.length := (List.getElem?_eq_some_iff.1 hu).1
        rw [← hu, ← hcc j (by omega), add_add]
      refine ⟨ps.map (·.1), .one ?_ rfl, ?_, ?_⟩
      · rw [← hxlen]
        refine .sl true e _ (some a) cap sz (ps.map (·.2)) hs hp (by omega) (by unfold maxLen at hm; omega) (fun h0 => by cases h0) (fun ad had h0 => ?_) (fun ad had i us j u hus hu => ?_) (by simp) (fun i x us hx' hus => ?_) (fun i x us j c u hx' hus hc hu => ?_)
        · obtain rfl := Option.some.inj had
          have h0' : 0 < ps.length := by simpa using h0
          obtain ⟨hc, hk, _⟩ := hall 0 _ (List.getElem?_eq_getElem h0')
          obtain ⟨_, hcl, hcc⟩ := World.cells?_some hc
          have h2 := hcell 0 _ 0 _ (List.getElem?_eq_getElem h0') (List.getElem?_eq_getElem (by omega))
          have := cell_lt h2
          rwa [add_block] at this
        · obtain rfl := Option.some.inj had
          rw [List.getElem?_map] at hus
          cases hp' : ps[i]? with
          | none => simp [hp'] at hus
          | some p =>
            simp [hp'] at hus
            subst hus
            exact hcell i p j u hp' hu
        · obtain ⟨p, hp', rfl, rfl⟩ := hgx i x us hx' hus
          obtain ⟨hc, hk, _⟩ := hall i p hp'
          obtain ⟨_, hcl, hcc⟩ := World.cells?_some hc
          exact ⟨by rw [hk.1, hcl], hcl, hk.2.2⟩
        · obtain ⟨p, hp', rfl, rfl⟩ := hgx i x us hx' hus
          exact (hall i p hp').2.1.2.1 j c u hc hu
      · have : len * b ≤ (elems.length + rest.length) * b := Nat.mul_le_mul_right _ (by omega)
        have h3 : (ps.map (·.1)).length = len := by simpa using hxlen
        rw [h3]
        omega
      · intro x hx'
        obtain ⟨p, hp', rfl⟩ := List.mem_map.1 hx'
        obtain ⟨i, hi⟩ := List.mem_iff_getElem?.1 hp'
        exact (hall i p hi).2.2⟩
/-- The same of a struct's fields from cell o on. -/
structure OpensFsV {α : Type} (P : Program) (fs : List Field) (o n : Nat) (fc : α → List V) (B : α → Prop) : Prop where
  size : ∀ x, (fc x).length = n
  reads : ∀ {H : Type} (enc : TypeId × Value → H) (w : World) (spare : Nat → Bool) (held : Bool) (fu : Nat) (cs : List Value) (xs : List (DataW H × List MemPlace)),
    cs.length = o + n → (∀ (i : Nat) (f : Field), fs[i]? = some f → DataW.trod enc P w 0 spare held fu f.type ((cs.drop f.offset).take (P.cellsOf f.type)) = xs[i]?) → xs.length = fs.length →
    (DataW.weightsEach P (fs.map (fun (f : Field) => f.type)) (xs.map (·.1))).all (· ≤ reachBytes) = true → ∃ y, CellsV P w (fc y) (cs.drop o) ∧ B y
theorem opensFsV_one {α : Type} {P : Program} {f : Field} {o n : Nat} {g : α → V} {B : α → Prop} (ho : f.offset = o) (hn : P.cellsOf f.type = n) (h : OpensV P f.type g B) : OpensFsV P [f] o n (fun x => (g x).cells) B :=
  ⟨fun x => (h.size x).trans hn, fun enc w sp hd n cs xs hl he hx hw => by
    have h0 := he 0 f rfl
    obtain ⟨x, rfl⟩ : ∃ x, xs = [x] := by
      match xs, hx with
      | [x], _ => exact ⟨x, rfl⟩
    simp [DataW.weightsEach] at hw
    have e : (cs.drop f.offset).take (P.cellsOf f.type) = cs.drop o := by
      rw [ho, hn]
      exact List.take_of_length_le (by rw [List.length_drop]; omega)
    rw [e] at h0
    exact h.reads enc w sp hd n _ x h0 (by simpa using hw)⟩
theorem opensFsV_cons {α β : Type} {P : Program} {f : Field} {fs : List Field} {o o' k n' : Nat} {g : α → V} {B : α → Prop} {fc' : β → List V} {B' : β → Prop} (ho : f.offset = o) (hk : P.cellsOf f.type = k) (h : OpensV P f.type g B) (ho' : o + k = o') (h' : OpensFsV P fs o' n' fc' B') :
    OpensFsV P (f :: fs) o (k + n') (fun x : α × β => (g x.1).cells ++ fc' x.2) (fun x => B x.1 ∧ B' x.2) :=
  ⟨fun x => by rw [List.length_append, h.size, hk, h'.size], fun enc w sp hd n cs xs hl he hx hw => by
    have h0 := he 0 f rfl
    obtain ⟨x, ys, rfl⟩ : ∃ x ys, xs = x :: ys := by
      match xs, hx with
      | x :: ys, _ => exact ⟨x, ys, rfl⟩
    simp only [List.map_cons, DataW.weightsEach, List.all_append, Bool.and_eq_true] at hw
    rw [ho, hk] at h0
    obtain ⟨y, hy, hB⟩ := h.reads enc w sp hd n _ x h0 hw.1
    obtain ⟨z, hz', hB'⟩ := h'.reads enc w sp hd n cs ys (by omega) (fun i g hg => by simpa using he (i + 1) g (by simpa using hg)) (by simpa using hx) hw.2
    refine ⟨(y, z), ?_, hB, hB'⟩
    have e : cs.drop o = (cs.drop o).take k ++ cs.drop o' := by rw [← ho', ← List.drop_drop, List.take_append_drop]
    rw [e]
    exact hy.app hz'⟩
theorem opensV_struct {α β : Type} {P : Program} {t : TypeId} {fs : Array Field} {n : Nat} {fc : α → List V} {B : α → Prop} {f : β → V} (g : β → α) (hg : ∀ y, ∃ x, g x = y) (hf : ∀ x, (f x).cells = fc (g x)) (ht : P.underlying t = some (.struct fs)) (hz : P.cellsOf t = n) (h : OpensFsV P fs.toList 0 n fc B) :
    OpensV P t f (fun x => B (g x)) :=
  ⟨fun x => by rw [hf, h.size, hz], fun enc w sp hd fu cs x hx hw => by
    obtain ⟨xs, n, rfl, rfl, hl, hxl, he⟩ := DataW.trod_struct ht hx
    simp only [DataW.weights, ht] at hw
    obtain ⟨y, hy, hB⟩ := h.reads enc w sp hd n cs xs (by omega) (fun i f hf => he i f (by simpa using hf)) (by simpa using hxl) hw
    obtain ⟨y, rfl⟩ := hg y
    exact ⟨y, by rw [List.drop_zero] at hy; rw [hf]; exact hy, hB⟩⟩
/-- An argument. -/
theorem argV_one {α : Type} {P : Program} {H : Type} {enc : TypeId × Value → H} {w : World} {t : TypeId} {f : α → V} {B : α → Prop} (h : OpensV P t f B) {v : Value} {d : DataW H} {ps : List MemPlace} (hd : DataW.Trod enc P w 0 (fun _ => true) true t v d ps)
    (hw : (d.weights P t).all (· ≤ reachBytes) = true) (hc : ∀ x, (f x).cells = [f x]) (hv : v.cells = #[v]) : ∃ y, Vw P (fun b => b < w.heap.size) w (f y) v ∧ B y := by
  obtain ⟨fu, hf⟩ := hd
  obtain ⟨y, hk, hB⟩ := h.reads enc w _ _ fu _ _ hf hw
  rw [hc, hv] at hk
  exact ⟨y, hk.2.1 0 _ _ rfl rfl, hB⟩
theorem argV_agg {α : Type} {P : Program} {H : Type} {enc : TypeId × Value → H} {w : World} {t : TypeId} {f : α → V} {B : α → Prop} (h : OpensV P t f B) {cs : Array Value} {d : DataW H} {ps : List MemPlace} (hd : DataW.Trod enc P w 0 (fun _ => true) true t (.agg cs) d ps)
    (hw : (d.weights P t).all (· ≤ reachBytes) = true) (hc : ∀ x, f x = .agg (f x).cells) : ∃ y, Vw P (fun b => b < w.heap.size) w (f y) (.agg cs) ∧ B y := by
  obtain ⟨fu, hf⟩ := hd
  obtain ⟨y, hk, hB⟩ := h.reads enc w _ _ fu _ _ hf hw
  have hcs : (Value.agg cs).cells = cs := rfl
  rw [hcs] at hk
  refine ⟨y, ?_, hB⟩
  rw [hc]
  have := Vw.agg (P := P) (I := fun b => b < w.heap.size) (w := w) (f y).cells cs.toList hk.1 hk.2.1 hk.2.2
  simpa using this
/-- A law that returns true. -/
theorem law_calls {P : Program} {fi : Nat} {args : List (Bool × V)} {us : List Value} {w : World} (h : Fn P fi args (.sc (.bool true)) []) (ha : ArgsR P (fun b => b < w.heap.size) w args us []) (hg : Glob w) :
    Calls P fi us.toArray w fun e w' => e = .returned (.bool true) ∧ Below w.heap.size w w' := by
  refine (h.2 (fun b => b < w.heap.size) w us [] (fun b hb => hb) List.nodup_nil (fun b hb => by simp at hb) ha ⟨hg, fun b _ => by simp⟩).mono fun e w' ⟨u, fp, gs, he, hr, _, _, _, hk⟩ => ?_
  obtain rfl := hr.sc_eq
  exact ⟨he, hk.os, hk.tape, hk.output, hk.size, fun k hkk => hk.block k ⟨hkk, by simp⟩⟩
end Go.Proofs.YtdahdpnkppknfaaGreatDoorM
