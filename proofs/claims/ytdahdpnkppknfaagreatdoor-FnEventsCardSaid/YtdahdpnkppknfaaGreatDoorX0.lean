/- Functions of the library, known by the shelf's contracts. Condition: the package variables that are read lie as laid. -/
import Derived.Test.YtdahdpnkppknfaaGreatDoorM19
import Derived.Test.YtdahdpnkppknfaaGreatDoorS0
import Derived.Lib.AppendIntMem
namespace Go.Proofs.YtdahdpnkppknfaaGreatDoorM
set_option linter.unusedVariables false
set_option linter.unusedSimpArgs false
open Go.RowKit
theorem ArgsR.sc {P : Program} {I : Nat → Prop} {w : World} : ∀ (vs : List Value) {us : List Value} {f : List Nat}, ArgsR P I w (vs.map fun v => (false, V.sc v)) us f → us = vs ∧ f = []
  | [], us, f, h => by
    cases us with
    | nil => exact ⟨rfl, h⟩
    | cons u us => exact absurd h (by intro h; exact h)
  | v :: vs, us, f, h => by
    cases us with
    | nil => exact absurd h (by intro h; exact h)
    | cons u us =>
      obtain ⟨h1, h2⟩ := h
      obtain ⟨rfl, rfl⟩ := ArgsR.sc vs h2
      cases h1 with
      | sc _ _ => exact ⟨rfl, rfl⟩
/-- A function known by its contract, over values without memory. -/
theorem Fn.flat {P : Program} {f : Nat} {r : Value} (vs : List Value) (he : enters P f = true) (hf : flatB r = true)
    (h : ∀ w : World, Glob w → Calls P f vs.toArray w fun e w' => e = .returned r ∧ Below w.heap.size w w') : Fn P f (vs.map fun v => (false, V.sc v)) (.sc r) [] := by
  refine ⟨he, fun I w us fa hI hn hd ha hg => ?_⟩
  obtain ⟨rfl, rfl⟩ := ArgsR.sc vs ha
  refine (h w hg.1).mono fun e w' ⟨h1, h2⟩ => ⟨r, [], [], h1, .leaf _ _ _ rfl (.sc _ hf), by simpa using PwL.nil, by simp, by simp, h2.os, h2.tape, h2.output, h2.size, fun k hk => h2.block k hk.1⟩
theorem tab_of {P : Program} {w : World} {nm : String} {g : Nat} {cs : Array Value} {t : TypeId} {z : Nat × Nat} {k : IntKind} {zs : List Int} (hg : P.globalNamed nm = some g) (h : w.heap[g]? = some (.cells cs t z))
    (hc : cs = (zs.map fun z => Value.int k z).toArray) : Lib.TabIs P w nm k zs := by
  unfold Lib.TabIs World.var?
  rw [hg]
  simp [h, hc]
end Go.Proofs.YtdahdpnkppknfaaGreatDoorM
