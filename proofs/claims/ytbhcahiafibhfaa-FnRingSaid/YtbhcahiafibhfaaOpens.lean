/- What comes in at a type of the program is read as a value of a kind (Kd), with a bound at each of its parts. Conditions: the type's rows, one for each kind. -/
import Derived.ChangeArms
import Derived.ChangeOld
import Derived.DataReads
import Derived.ChangeSlices
import Derived.WideShapes
import Derived.SizedLaws
import Derived.Test.YtbhcahiafibhfaaWWords
namespace Go.Proofs.YtbhcahiafibhfaaW.Opens
open Go.ChangeShapes Go.WideShapes Go.Proofs.YtbhcahiafibhfaaW.PrintWords

/-- Whatever is read at type t is a value of kind d that meets B. -/
structure Opens {α : Type} (P : Program) (t : TypeId) (d : Kd α) (B : α → Prop) : Prop where
  size : P.cellsOf t = d.sz
  reads : ∀ {H : Type} (enc : TypeId × Value → H) (w : World) (spare : Nat → Bool) (held : Bool) (fuel : Nat) (cs : List Value) (x : DataW H × List MemPlace),
    DataW.trod enc P w 0 spare held fuel t cs = some x → (x.1.weights P t).all (· ≤ reachBytes) = true → ∃ y, d.K w y cs ∧ B y

theorem Opens.imp {α : Type} {P : Program} {t : TypeId} {d : Kd α} {B B' : α → Prop} (h : Opens P t d B) (hB : ∀ x, B x → B' x) : Opens P t d B' :=
  ⟨h.size, fun enc w sp hd f cs x hx hw => by obtain ⟨y, k, b⟩ := h.reads enc w sp hd f cs x hx hw; exact ⟨y, k, hB y b⟩⟩

theorem opens_int {P : Program} {t : TypeId} {k : IntKind} (ht : P.underlying t = some (.int k)) (hz : P.cellsOf t = 1) : Opens P t (Kd.int k) (fun x => (Lit.int k x).wf = true) :=
  ⟨hz, fun enc w sp hd f cs x hx _ => by
    obtain ⟨n, rfl, rfl, hn⟩ := DataW.trod_int ht hx
    exact ⟨n, rfl, hn⟩⟩

theorem opens_bool {P : Program} {t : TypeId} (ht : P.underlying t = some .bool) (hz : P.cellsOf t = 1) : Opens P t Kd.bool (fun _ => True) :=
  ⟨hz, fun enc w sp hd f cs x hx _ => by
    obtain ⟨n, rfl, rfl⟩ := DataW.trod_bool ht hx
    exact ⟨n, rfl, trivial⟩⟩

theorem opens_string {P : Program} {t : TypeId} (ht : P.underlying t = some .string) (hz : P.cellsOf t = 1) : Opens P t Kd.string (fun s => s.size ≤ 140737488351232) :=
  ⟨hz, fun enc w sp hd f cs x hx hw => by
    obtain ⟨s, rfl, rfl, _⟩ := DataW.trod_string ht hx
    refine ⟨s, rfl, ?_⟩
    simp [DataW.weights, reachBytes] at hw
    exact of_decide_eq_true hw⟩

theorem weightsAll_get {H : Type} {P : Program} {e : TypeId} : ∀ {l : List (DataW H)} {i : Nat} {y : DataW H}, (DataW.weightsAll P e l).all (· ≤ reachBytes) = true → l[i]? = some y → (y.weights P e).all (· ≤ reachBytes) = true
  | [], _, _, _, h => by simp at h
  | a :: l, 0, y, h, hy => by
    simp only [DataW.weightsAll, List.all_append, Bool.and_eq_true] at h
    simp at hy
    subst hy
    exact h.1
  | a :: l, i + 1, y, h, hy => by
    simp only [DataW.weightsAll, List.all_append, Bool.and_eq_true] at h
    exact weightsAll_get h.2 (by simpa using hy)

theorem choose_list {α β : Type} {Q : Nat → α → β → Prop} : ∀ (l : List β) (s : Nat), (∀ i y, l[i]? = some y → ∃ x, Q (s + i) x y) → ∃ xs : List α, xs.length = l.length ∧ ∀ i x y, xs[i]? = some x → l[i]? = some y → Q (s + i) x y
  | [], s, _ => ⟨[], rfl, fun i x y h => by simp at h⟩
  | b :: l, s, h => by
    obtain ⟨x0, h0⟩ := h 0 b rfl
    obtain ⟨xs, hl, hr⟩ := choose_list (Q := Q) l (s + 1) (fun i y hy => by
      obtain ⟨x, hx⟩ := h (i + 1) y (by simpa using hy)
      exact ⟨x, by rw [show s + 1 + i = s + (i + 1) by omega]; exact hx⟩)
    refine ⟨x0 :: xs, by simp [hl], ?_⟩
    intro i x y hx hy
    cases i with
    | zero =>
      simp at hx hy
      subst hx hy
      exact h0
    | succ i =>
      rw [show s + (i + 1) = s + 1 + i by omega]
      exact hr i x y (by simpa using hx) (by simpa using hy)

theorem addr_add_add (a : Addr) (i j : Nat) : (a.add i).add j = a.add (i + j) := by
  obtain ⟨b, o, p⟩ := a
  by_cases hi : i = 0 <;> by_cases hj : j = 0 <;> simp [Addr.add, Nat.add_assoc, hi, hj]

theorem opens_slice {α : Type} {P : Program} {t e : TypeId} {d : Kd α} {B : α → Prop} {b : Nat} (ht : P.underlying t = some (.slice e)) (hz : P.cellsOf t = 1) (hb : P.bytesOf e = b) (h : Opens P e d B) :
    Opens P t (Kd.slice e d) (fun xs => xs.length * b ≤ 140737488351232 ∧ ∀ x ∈ xs, B x) :=
  ⟨hz, fun enc w sp hd f cs x hx hw => by
    rcases DataW.trod_slice ht hx with ⟨rfl, rfl⟩ | ⟨a, len, cap, elems, rest, n, rfl, rfl, rfl, hba, hl, hm, hlen, hel, hsp, hns⟩
    · exact ⟨[], ⟨none, 0, rfl, Nat.le_refl _, Kd.C_nil d w⟩, by simp, by simp⟩
    · simp only [DataW.weights, ht, List.all_cons, List.all_append, Bool.and_eq_true, List.length_map] at hw
      obtain ⟨hw0, hw1, _⟩ := hw
      replace hw0 := of_decide_eq_true hw0
      unfold reachBytes at hw0
      rw [hb] at hw0
      have each : ∀ i y, elems[i]? = some y → ∃ x c, w.cells? 0 (a.add (i * d.sz)) d.sz = some c ∧ d.K w x c ∧ B x := by
        intro i y hy
        have hi : i < len := by
          have := (List.getElem?_eq_some_iff.1 hy).1
          omega
        have he := hel i hi
        rw [hy, h.size] at he
        simp only [Option.bind_eq_some_iff] at he
        obtain ⟨c, hc, ht'⟩ := he
        obtain ⟨x, hk, hB⟩ := h.reads enc w sp hd n c y ht' (weightsAll_get (i := i) hw1 (by rw [List.getElem?_map, hy]; rfl))
        exact ⟨x, c, hc, hk, hB⟩
      obtain ⟨xs, hxl, hxs⟩ := choose_list (Q := fun i x (_ : DataW _ × List MemPlace) => ∃ c, w.cells? 0 (a.add (i * d.sz)) d.sz = some c ∧ d.K w x c ∧ B x) elems 0 (fun i y hy => by
        obtain ⟨x, c, hc⟩ := each i y hy
        exact ⟨x, c, by simpa using hc⟩)
      have hall : ∀ i x, xs[i]? = some x → ∃ c, w.cells? 0 (a.add (i * d.sz)) d.sz = some c ∧ d.K w x c ∧ B x := by
        intro i x hx'
        have hi : i < elems.length := by
          have := (List.getElem?_eq_some_iff.1 hx').1
          omega
        obtain ⟨c, hc⟩ := hxs i x _ hx' (List.getElem?_eq_getElem hi)
        exact ⟨c, by simpa using hc⟩
      have hxlen : xs.length = len := by omega
      refine ⟨xs, ⟨some a, cap, by rw [hxlen], by omega, ?_⟩, ?_, ?_⟩
      · refine ⟨rfl, by rw [hxlen]; unfold maxLen at hm; omega, fun _ => ⟨a, rfl, fun j p hp => ?_⟩⟩
        obtain ⟨c, hc, hk, _⟩ := hall j p hp
        obtain ⟨hcl, hcc⟩ := World.cells?_some hc
        refine ⟨c, d.K_len hk, hk, fun i u hu => ?_⟩
        have hi : i < c.length := (List.getElem?_eq_some_iff.1 hu).1
        rw [← hu, ← hcc.2 i (by have := d.K_len hk; omega)]
        rw [addr_add_add]
      · rw [hxlen]
        have : len * b ≤ (elems.length + rest.length) * b := Nat.mul_le_mul_right _ (by omega)
        omega
      · intro x hx'
        obtain ⟨i, hi⟩ := List.mem_iff_getElem?.1 hx'
        obtain ⟨c, _, _, hB⟩ := hall i x hi
        exact hB⟩

/-- The same of a struct's fields from cell o on. -/
structure OpensFs {α : Type} (P : Program) (fs : List Field) (o : Nat) (d : Kd α) (B : α → Prop) : Prop where
  reads : ∀ {H : Type} (enc : TypeId × Value → H) (w : World) (spare : Nat → Bool) (held : Bool) (n : Nat) (cs : List Value) (xs : List (DataW H × List MemPlace)),
    cs.length = o + d.sz → (∀ (i : Nat) (f : Field), fs[i]? = some f → DataW.trod enc P w 0 spare held n f.type ((cs.drop f.offset).take (P.cellsOf f.type)) = xs[i]?) → xs.length = fs.length →
    (DataW.weightsEach P (fs.map (fun (f : Field) => f.type)) (xs.map (·.1))).all (· ≤ reachBytes) = true → ∃ y, d.K w y (cs.drop o) ∧ B y

theorem opensFs_one {α : Type} {P : Program} {f : Field} {o : Nat} {d : Kd α} {B : α → Prop} (ho : f.offset = o) (h : Opens P f.type d B) : OpensFs P [f] o d B :=
  ⟨fun enc w sp hd n cs xs hl he hx hw => by
    have h0 := he 0 f rfl
    obtain ⟨x, rfl⟩ : ∃ x, xs = [x] := by
      match xs, hx with
      | [x], _ => exact ⟨x, rfl⟩
    simp [DataW.weightsEach] at hw
    have e : (cs.drop f.offset).take (P.cellsOf f.type) = cs.drop o := by
      rw [ho, h.size]
      exact List.take_of_length_le (by rw [List.length_drop]; omega)
    rw [e] at h0
    exact h.reads enc w sp hd n _ x h0 (by simpa using hw)⟩

theorem opensFs_cons {α β : Type} {P : Program} {f : Field} {fs : List Field} {o o' : Nat} {d : Kd α} {B : α → Prop} {d' : Kd β} {B' : β → Prop} (ho : f.offset = o) (h : Opens P f.type d B) (ho' : o + d.sz = o') (h' : OpensFs P fs o' d' B') :
    OpensFs P (f :: fs) o (Kd.pair d d') (fun x => B x.1 ∧ B' x.2) :=
  ⟨fun enc w sp hd n cs xs hl he hx hw => by
    have hz : (Kd.pair d d').sz = d.sz + d'.sz := rfl
    have h0 := he 0 f rfl
    obtain ⟨x, ys, rfl⟩ : ∃ x ys, xs = x :: ys := by
      match xs, hx with
      | x :: ys, _ => exact ⟨x, ys, rfl⟩
    simp only [List.map_cons, DataW.weightsEach, List.all_append, Bool.and_eq_true] at hw
    rw [ho, h.size] at h0
    obtain ⟨y, hy, hB⟩ := h.reads enc w sp hd n _ x h0 hw.1
    obtain ⟨z, hz', hB'⟩ := h'.reads enc w sp hd n cs ys (by omega) (fun i g hg => by simpa using he (i + 1) g (by simpa using hg)) (by simpa using hx) hw.2
    refine ⟨(y, z), ⟨_, _, ?_, hy, hz'⟩, hB, hB'⟩
    rw [← ho', ← List.drop_drop, List.take_append_drop]⟩

theorem opens_struct {α β : Type} {P : Program} {t : TypeId} {fs : Array Field} {d : Kd α} {B : α → Prop} (g : β → α) (hg : ∀ y, ∃ x, g x = y) (ht : P.underlying t = some (.struct fs)) (hz : P.cellsOf t = d.sz) (h : OpensFs P fs.toList 0 d B) :
    Opens P t (Kd.iso d g) (fun x => B (g x)) :=
  ⟨hz, fun enc w sp hd f cs x hx hw => by
    obtain ⟨xs, n, rfl, rfl, hl, hxl, he⟩ := DataW.trod_struct ht hx
    simp only [DataW.weights, ht] at hw
    obtain ⟨y, hy, hB⟩ := h.reads enc w sp hd n cs xs (by omega) (fun i f hf => he i f (by simpa using hf)) (by simpa using hxl) hw
    obtain ⟨y, rfl⟩ := hg y
    exact ⟨y, by rw [List.drop_zero] at hy; exact hy, hB⟩⟩

end Go.Proofs.YtbhcahiafibhfaaW.Opens
