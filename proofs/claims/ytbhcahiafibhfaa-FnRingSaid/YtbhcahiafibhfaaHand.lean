/- Words that the hand-written contracts share: predicates and comparisons handed over as function values, and what the library's loops over them tell. No condition. -/
import Derived.Test.YtbhcahiafibhfaaWMore
import Derived.Test.YtbhcahiafibhfaaOpens
import Derived.Deep.LoopGhost
import Derived.LoopTactic
import Derived.StillTailTactics
import Derived.Deep.RegionHeld3
import Derived.IntWalk
import Derived.Laws.Cells
import Derived.Lib.SliceRun
namespace Go.Proofs.YtbhcahiafibhfaaW.PrintWords
open Go.RowKit

/-- A predicate on elements of kind d that come as structs: it only reads, and makes memory of its own. -/
def PredK {α : Type} (P : Program) (g : Nat) (lb : Array Value) (d : Kd α) (p : α → Bool) (w : World) : Prop :=
  ∀ (W : World) (x : α) (cs : List Value), Below w.heap.size w W → d.K W x cs → Calls P g (#[.agg cs.toArray] ++ lb) W fun e w' => e = .returned (.bool (p x)) ∧ Below W.heap.size W w'
/-- A predicate on values of one cell. -/
def PredV {α : Type} (P : Program) (g : Nat) (lb : Array Value) (enc : α → Value) (p : α → Bool) (w : World) : Prop :=
  ∀ (W : World) (x : α), Below w.heap.size w W → Calls P g (#[enc x] ++ lb) W fun e w' => e = .returned (.bool (p x)) ∧ Below W.heap.size W w'
/-- A comparison of elements of kind d that come as structs. -/
def CmpK {α : Type} (P : Program) (g : Nat) (lb : Array Value) (d : Kd α) (c : α → α → Int) (w : World) : Prop :=
  ∀ (W : World) (x y : α) (cs ds : List Value), Below w.heap.size w W → d.K W x cs → d.K W y ds → Calls P g (#[.agg cs.toArray, .agg ds.toArray] ++ lb) W fun e w' => e = .returned (.int .i64 (c x y)) ∧ Below W.heap.size W w'
/-- The same, told as yes or no. -/
def EqK {α : Type} (P : Program) (g : Nat) (lb : Array Value) (d : Kd α) (c : α → α → Bool) (w : World) : Prop :=
  ∀ (W : World) (x y : α) (cs ds : List Value), Below w.heap.size w W → d.K W x cs → d.K W y ds → Calls P g (#[.agg cs.toArray, .agg ds.toArray] ++ lb) W fun e w' => e = .returned (.bool (c x y)) ∧ Below W.heap.size W w'

/-- The first place at which p holds, or -1. -/
def idxOf {α : Type} (p : α → Bool) : List α → Int
  | [] => -1
  | x :: xs => if p x then 0 else if idxOf p xs < 0 then -1 else idxOf p xs + 1
theorem idxOf_hit {α : Type} (p : α → Bool) : ∀ (xs : List α) (k : Nat) (h : k < xs.length), p xs[k] = true → (∀ j (hj : j < k), p (xs[j]'(by omega)) = false) → idxOf p xs = k
  | x :: xs, 0, _, h1, _ => by simp at h1; simp [idxOf, h1]
  | x :: xs, k + 1, h, h1, h2 => by
    have h0 := h2 0 (by omega)
    simp at h0 h1
    have ih := idxOf_hit p xs k (by simpa using h) h1 (fun j hj => by simpa using h2 (j + 1) (by omega))
    simp only [idxOf, h0, ih]
    rw [if_neg (by simp), if_neg (by omega)]
    omega
theorem idxOf_miss {α : Type} (p : α → Bool) : ∀ (xs : List α), (∀ j (hj : j < xs.length), p xs[j] = false) → idxOf p xs = -1
  | [], _ => rfl
  | x :: xs, h => by
    have h0 := h 0 (by simp)
    simp at h0
    have ih := idxOf_miss p xs (fun j hj => by have z := h (j + 1) (by simp; omega); simpa using z)
    simp [idxOf, h0, ih]
theorem idxOf_range {α : Type} (p : α → Bool) (xs : List α) : -1 ≤ idxOf p xs ∧ idxOf p xs < xs.length := by
  induction xs with
  | nil => simp [idxOf]
  | cons x xs ih =>
    simp only [idxOf, List.length_cons]
    split
    · omega
    · split <;> omega
theorem idxOf_nonneg {α : Type} (p : α → Bool) (xs : List α) : (0 ≤ idxOf p xs) ↔ xs.any p = true := by
  induction xs with
  | nil => simp [idxOf]
  | cons x xs ih =>
    simp only [idxOf, List.any_cons, Bool.or_eq_true]
    by_cases h : p x = true
    · simp [h]
    · rw [if_neg h]
      by_cases h2 : idxOf p xs < 0
      · rw [if_pos h2]
        simp [h]
        have := mt ih.2 (by omega)
        simpa using this
      · rw [if_neg h2]
        have := ih.1 (by omega)
        simp [this]
        omega
theorem idxOf_at {α : Type} (p : α → Bool) : ∀ (xs : List α), 0 ≤ idxOf p xs → ∃ (k : Nat) (h : k < xs.length), idxOf p xs = k ∧ p xs[k] = true ∧ ∀ j (hj : j < k), p (xs[j]'(by omega)) = false
  | [], h => by simp [idxOf] at h
  | x :: xs, h => by
    by_cases hp : p x = true
    · exact ⟨0, by simp, by simp [idxOf, hp], by simpa using hp, fun j hj => absurd hj (Nat.not_lt_zero _)⟩
    · simp only [idxOf, hp] at h ⊢
      by_cases h2 : idxOf p xs < 0
      · rw [if_neg (by simp), if_pos h2] at h; omega
      · obtain ⟨k, hk, e, h3, h4⟩ := idxOf_at p xs (by omega)
        refine ⟨k + 1, by simpa using hk, by rw [if_neg (by simp), if_neg h2, e]; omega, by simpa using h3, fun j hj => ?_⟩
        cases j with
        | zero => simpa using hp
        | succ j => simpa using h4 j (by omega)
theorem flat_next {α : Type} (xss : List (List α)) (i : Nat) (h : i < xss.length) : (xss.take (i + 1)).flatten = (xss.take i).flatten ++ xss[i] := by
  rw [List.take_succ_eq_append_getElem h, List.flatten_append]
  simp only [List.flatten_cons, List.flatten_nil, List.append_nil]
theorem flat_le {α : Type} (xss : List (List α)) (i : Nat) : (xss.take i).flatten.length ≤ xss.flatten.length := by
  have h := congrArg (fun l : List (List α) => l.flatten.length) (List.take_append_drop i xss)
  simp only [List.flatten_append, List.length_append] at h
  omega
/-- How many elements the first i rows hold. -/
def flen {α : Type} (xss : List (List α)) (i : Nat) : Nat := (xss.take i).flatten.length
theorem flen_next {α : Type} (xss : List (List α)) (i : Nat) (h : i < xss.length) : flen xss (i + 1) = flen xss i + xss[i].length := by
  unfold flen
  rw [flat_next xss i h, List.length_append]
theorem flen_le {α : Type} (xss : List (List α)) (i : Nat) : flen xss i ≤ flen xss xss.length := by
  unfold flen
  rw [List.take_length]
  exact flat_le xss i
theorem flen_all {α : Type} (xss : List (List α)) : flen xss xss.length = xss.flatten.length := by unfold flen; rw [List.take_length]
/-- Draws stand outermost: behind a store, too. -/
@[go_sem] theorem hsetCell_drewN (w : World) (n : Nat) (a : Addr) (v : Value) : (w.drewN n).setCell a v = (w.setCell a v).drewN n := rfl
/-- A fact about what comes to the same: two cells' lists, one row. -/
theorem hcell_at {w W : World} {ad : Addr} {m j : Nat} {v : Value} (hb : Below w.heap.size w W) (hj : 0 < j) (h : w.cell? (ad.add (m + j)) = some v) : W.cell? ⟨(ad.add m).block, (ad.add m).off + j, none⟩ = some v := by
  rw [← add_field _ _ j hj]
  exact pw_cell_below hb h
theorem hcell_at0 {w W : World} {ad : Addr} {m : Nat} {v : Value} (hb : Below w.heap.size w W) (h : w.cell? (ad.add (m + 0)) = some v) : W.cell? (ad.add m) = some v := pw_cell_below hb h
end Go.Proofs.YtbhcahiafibhfaaW.PrintWords
