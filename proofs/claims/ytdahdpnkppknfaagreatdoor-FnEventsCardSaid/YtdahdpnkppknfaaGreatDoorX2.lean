/- Functions of the library that hand back several values, or strings in a row. Condition: the shelf's contracts of them. -/
import Derived.Test.YtdahdpnkppknfaaGreatDoorX0
import Derived.Lib.Replace
import Derived.Lib.Bytealg
import Derived.Lib.Split
import Derived.Lib.IndexMore
import Derived.Lib.Repeat
import Derived.Lib.TrimByte
import Derived.Lib.AtoiAll
namespace Go.Proofs.YtdahdpnkppknfaaGreatDoorM
set_option linter.unusedVariables false
set_option linter.unusedSimpArgs false
open Go.RowKit
theorem Fn.flats {P : Program} {f : Nat} {rs : List Value} (vs : List Value) (he : enters P f = true) (hf : rs.all flatB = true)
    (h : ∀ w : World, Glob w → Calls P f vs.toArray w fun e w' => e = .returned (.tuple rs.toArray) ∧ Below w.heap.size w w') : Fn P f (vs.map fun v => (false, V.sc v)) (.tup (rs.map V.sc)) [] := by
  refine ⟨he, fun I w us fa hI hn hd ha hg => ?_⟩
  obtain ⟨rfl, rfl⟩ := ArgsR.sc vs ha
  refine (h w hg.1).mono fun e w' ⟨h1, h2⟩ => ⟨.tuple rs.toArray, [], [], h1, ?_, by simpa using PwL.nil, by simp, by simp, h2.os, h2.tape, h2.output, h2.size, fun k hk => h2.block k hk.1⟩
  refine Rel.tup_mk (.of_bare (by simp) fun j c u hc hu => ?_)
  rw [List.getElem?_map, hu] at hc
  obtain rfl := Option.some.inj hc
  exact .leaf _ _ _ rfl (.sc _ (List.all_eq_true.1 hf u (List.mem_of_getElem? hu)))
/-- Strings in a row of one's own. -/
theorem Fn.strs {P : Program} {f e : Nat} {xs : List ByteArray} (vs : List Value) (he : enters P f = true) (hs : szOf P e = some 1) (hl : xs.length ≤ 9223372036854775807)
    (h : ∀ w : World, Glob w → Calls P f vs.toArray w fun r w' => r = .returned (.slice (some ⟨w.heap.size, 0, none⟩) xs.length xs.length) ∧ w' = w.alloc (.cells (xs.map Value.string).toArray e)) :
    Fn P f (vs.map fun v => (false, V.sc v)) (.sl true e (xs.map fun x => V.sc (.string x))) [] := by
  refine ⟨he, fun I w us fa hI hn hd ha hg => ?_⟩
  obtain ⟨rfl, rfl⟩ := ArgsR.sc vs ha
  refine (h w hg.1).mono fun r w' ⟨h1, h2⟩ => ?_
  subst h2
  have ho : Own (w.alloc (.cells (xs.map Value.string).toArray e)) e 1 (.slice (some ⟨w.heap.size, 0, none⟩) xs.length xs.length) (xs.map fun x => V.sc (.string x)).length (xs.map fun x => [Value.string x]).flatten := by
    have e1 : ∀ l : List ByteArray, (l.map fun x => [Value.string x]).flatten = l.map Value.string := fun l => by
      induction l with
      | nil => rfl
      | cons n l ih => simpa using ih
    rw [e1, List.length_map]
    exact ownNew hl (by simp)
  refine ⟨_, fbOf (.slice (some ⟨w.heap.size, 0, none⟩) xs.length xs.length), [], h1, ?_, by simpa using PwL.nil, by simpa using fb_nodup _, fun b hb => ?_, rfl, rfl, rfl, by simp, fun k hk => Below.heap_alloc w _ k hk.1⟩
  · have := Rel.row_mk (P := P) (I := I) (w := w.alloc (.cells (xs.map Value.string).toArray e)) (R := fun _ => undef) (N := 0) (R' := fun _ => undef) (N' := 0) (ffs := List.replicate xs.length []) false hs (by decide) ho (by simp) (by simp) (fun i x us f hx hus hf => by
      have := (List.mem_replicate.1 (List.mem_of_getElem? hf)).2
      subst this
      simp only [List.getElem?_map, Option.map_eq_some_iff] at hx hus
      obtain ⟨y, hy, rfl⟩ := hx
      obtain ⟨y', hy', rfl⟩ := hus
      rw [hy] at hy'
      obtain rfl := Option.some.inj hy'
      exact ⟨rfl, rfl, fun u hu => by simp at hu; subst hu; rfl, PwL.cons (Rel.leaf false _ _ rfl (.sc (.string y) rfl)) PwL.nil⟩)
    have e2 : (List.replicate xs.length ([] : List Nat)).flatten = [] := by simp
    rw [e2, List.append_nil] at this
    exact this
  · simp only [List.append_nil] at hb
    obtain rfl := fb_new _ _ _ b hb
    exact .inr (Nat.le_refl _)
/-- The cell of a package variable. -/
theorem glob_cell {w : World} (h : Glob w) {b : Nat} {p : Array Value → Prop} (hm : (b, p) ∈ globs) {v : Value → Prop} (hp : ∀ cs, p cs → ∃ u, cs[0]? = some u ∧ v u) : ∃ u, w.cell? ⟨b, 0, none⟩ = some u ∧ v u := by
  obtain ⟨cs, t, z, e1, e2⟩ := h _ hm
  obtain ⟨u, q1, q2⟩ := hp cs e2
  exact ⟨u, by rw [cell_of_row w b 0 cs t z e1]; exact q1, q2⟩
theorem below_drewN (w : World) (n : Nat) : Below w.heap.size w (w.drewN n) := ⟨rfl, rfl, rfl, Nat.le_refl _, fun j hj => rfl⟩
theorem argsR_sc {P : Program} {I : Nat → Prop} {w : World} : ∀ vs : List Value, vs.all flatB = true → ArgsR P I w (vs.map fun v => (false, V.sc v)) vs []
  | [], _ => rfl
  | v :: vs, h => by
    simp only [List.all_cons, Bool.and_eq_true] at h
    exact ⟨.sc _ h.1, argsR_sc vs h.2⟩
/-- A contract over values without memory, out of a told one. -/
theorem Fn.calls {P : Program} {f : Nat} {r : Value} (vs : List Value) (h : Fn P f (vs.map fun v => (false, V.sc v)) (.sc r) []) (hf : vs.all flatB = true) (w : World) (hw : Glob w) : Calls P f vs.toArray w fun e w' => e = .returned r ∧ Below w.heap.size w w' := by
  refine (h.2 (fun _ => False) w vs [] (fun _ h => h.elim) List.nodup_nil (fun _ _ h => h) (argsR_sc vs hf) ⟨hw, fun b _ h => by cases h⟩).mono ?_
  rintro e w' ⟨u, fp, gs, rfl, hr, _, _, _, hk⟩
  refine ⟨by rw [hr.sc_eq], hk.os, hk.tape, hk.output, hk.size, fun k hlt => hk.block k ⟨hlt, fun h => by cases h⟩⟩
theorem Glob.below {w w' : World} (h : Glob w) (hb : Below w.heap.size w w') : Glob w' := h.step fun b hg => hb.block b (h.lt hg)
theorem ba_of_beq {a b : ByteArray} (h : (a == b) = true) : a = b := by
  rcases a with ⟨a⟩
  rcases b with ⟨b⟩
  have h1 : ((⟨a⟩ : ByteArray) == ⟨b⟩) = (a == b) := rfl
  rw [h1] at h
  rw [eq_of_beq h]
theorem tfB (b : Bool) : b = true ∨ b = false := by cases b <;> simp
theorem below_bytes {w w' : World} {e : Nat} (h : w' = w ∨ ∃ t, w' = Lib.bytesWorld w e t) : Below w.heap.size w w' := by
  rcases h with rfl | ⟨t, rfl⟩
  · exact Below.refl _ _
  · exact Lib.bytesWorld_below _ _ _
theorem below_then {w w1 w2 : World} (h : Below w.heap.size w w1) (h2 : Below w1.heap.size w1 w2) : Below w.heap.size w w2 := h.trans (h2.mono h.size)
/-- What strings.Split, strings.Cut yield. -/
def splitP (s sep : ByteArray) : List ByteArray := Lib.splitB sep 0 (Lib.countB s sep) s
def cutP (s sep : ByteArray) : ByteArray × ByteArray × Bool := (⟨(Lib.cut s.data.toList sep.data.toList).1.toArray⟩, ⟨(Lib.cut s.data.toList sep.data.toList).2.1.toArray⟩, (Lib.cut s.data.toList sep.data.toList).2.2)
def idxbP (s : ByteArray) (c : Int) : Int := Lib.indexByte s.data.toList c.toNat.toUInt8
def replP (s o n : ByteArray) : ByteArray := ⟨(Lib.replaceAll s.data.toList o.data.toList n.data.toList).toArray⟩
def repP (s : ByteArray) (n : Int) : ByteArray := ⟨(Lib.repeatL s.data.toList n.toNat).toArray⟩
def trimP (s : ByteArray) (c : UInt8) : ByteArray := ⟨(Lib.trimRightB s.data.toList c).toArray⟩
end Go.Proofs.YtdahdpnkppknfaaGreatDoorM
