/- Plain words for the pure statements: what a printed function tells from some number of rounds on. No condition. -/
import Derived.Test.YtbhcahiafibhfaaHand
namespace Go.Proofs.YtbhcahiafibhfaaW.PrintWords
open Go.RowKit

theorem Ev.pos {α : Type} {c : Prop} [Decidable c] {f g : Nat → Option α} {r : α} (h : c) (k : Ev f r) : Ev (fun n => if c then f n else g n) r := by
  obtain ⟨K, k⟩ := k
  exact ⟨K, fun n hn => (if_pos h).trans (k n hn)⟩
theorem Ev.neg {α : Type} {c : Prop} [Decidable c] {f g : Nat → Option α} {r : α} (h : ¬ c) (k : Ev g r) : Ev (fun n => if c then f n else g n) r := by
  obtain ⟨K, k⟩ := k
  exact ⟨K, fun n hn => (if_neg h).trans (k n hn)⟩
theorem Ev.is {α : Type} {o : Option α} {r : α} (h : o = some r) : Ev (fun _ => o) r := ⟨0, fun _ _ => h⟩
theorem Ev.val {α : Type} {a r : α} (h : a = r) : Ev (fun _ => some a) r := ⟨0, fun _ _ => by rw [h]⟩
theorem Ev.uniq {α : Type} {g : Nat → Option α} {r s : α} (h : Ev g r) (k : Ev g s) : r = s := by
  obtain ⟨K, h⟩ := h
  obtain ⟨L, k⟩ := k
  have := (h (max K L) (by omega)).symm.trans (k (max K L) (by omega))
  simpa using this
theorem Ev.bool {f g : Nat → Option Bool} {r : Bool} {c : Prop} [Decidable c] (h1 : c → Ev f r) (h2 : ¬ c → Ev g r) : Ev (fun n => if c then f n else g n) r := by
  by_cases h : c
  · exact Ev.pos h (h1 h)
  · exact Ev.neg h (h2 h)
theorem Ev.ite {α : Type} {f g : Nat → Option α} {r : α} {c : Prop} [Decidable c] (h1 : c → Ev f r) (h2 : ¬ c → Ev g r) : Ev (fun n => if c then f n else g n) r := by
  by_cases h : c
  · exact Ev.pos h (h1 h)
  · exact Ev.neg h (h2 h)

/-- It ends, in whatever. -/
def Ex {α : Type} (g : Nat → Option α) : Prop := ∃ r, Ev g r
theorem Ex.now {α : Type} (a : α) : Ex (fun _ => some a) := ⟨a, Ev.now a⟩
theorem Ex.ite {α : Type} {c : Prop} [Decidable c] {f g : Nat → Option α} (h1 : Ex f) (h2 : Ex g) : Ex (fun n => if c then f n else g n) := by
  by_cases h : c
  · obtain ⟨r, k⟩ := h1; exact ⟨r, Ev.pos h k⟩
  · obtain ⟨r, k⟩ := h2; exact ⟨r, Ev.neg h k⟩
theorem Ex.pos {α : Type} {c : Prop} [Decidable c] {f g : Nat → Option α} (h : c) (h1 : Ex f) : Ex (fun n => if c then f n else g n) := by
  obtain ⟨r, k⟩ := h1; exact ⟨r, Ev.pos h k⟩
theorem Ex.bind {α β : Type} {g : Nat → Option α} {f : Nat → α → Option β} (h : Ex g) (k : ∀ a, Ex (fun n => f n a)) : Ex (fun n => (g n).bind (f n)) := by
  obtain ⟨a, h⟩ := h
  obtain ⟨r, k⟩ := k a
  exact ⟨r, Ev.bind h k⟩
theorem Ex.step {α : Type} {g f : Nat → Option α} (h : ∀ k, g (k + 1) = f k) (k : Ex f) : Ex g := by
  obtain ⟨r, k⟩ := k
  exact ⟨r, Ev.step h k⟩
theorem Ex.is {α : Type} {o : Option α} (h : ∃ r, o = Option.some r) : Ex (fun _ => o) := by
  obtain ⟨r, h⟩ := h
  exact ⟨r, Ev.is h⟩

theorem wr1 (i : Nat) (h : i < 9223372036854775807) : wrap64 ((i : Int) + 1) = ((i + 1 : Nat) : Int) := by
  unfold wrap64
  omega
theorem wr_id (x : Int) (h0 : -9223372036854775808 ≤ x) (h1 : x ≤ 9223372036854775807) : wrap64 x = x := by
  unfold wrap64
  omega
theorem rd_at (xs : List Int) (i : Nat) (h : i < xs.length) : rd xs (i : Int) = xs[i] := by
  unfold rd
  rw [Int.toNat_natCast, List.getD_eq_getElem?_getD, List.getElem?_eq_getElem h]
  rfl
theorem getD_at {α : Type} (xs : List α) (z : α) (i : Nat) (h : i < xs.length) : xs.getD ((i : Int)).toNat z = xs[i] := by
  rw [Int.toNat_natCast, List.getD_eq_getElem?_getD, List.getElem?_eq_getElem h]
  rfl
theorem fill_next {α : Type} (l : List α) (xs : List α) (i : Nat) (v : α) (hl : l.length = xs.length) (h : i < xs.length) (hv : v = xs[i]) (hp : l.take i = xs.take i) : (l.set i v).take (i + 1) = xs.take (i + 1) := by
  subst hv
  rw [List.take_succ_eq_append_getElem (by simpa [hl] using h), List.take_succ_eq_append_getElem h, List.getElem_set_self, List.take_set_of_le (Nat.le_refl i), hp]
theorem fill_done {α : Type} (l : List α) (xs : List α) (hl : l.length = xs.length) (hp : l.take xs.length = xs.take xs.length) : l = xs := by
  rw [List.take_length, ← hl, List.take_length] at hp
  exact hp
end Go.Proofs.YtbhcahiafibhfaaW.PrintWords
