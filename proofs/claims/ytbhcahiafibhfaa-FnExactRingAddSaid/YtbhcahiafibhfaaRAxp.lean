/- What the laws' own helpers tell: sizes, copies, comparisons. No condition beside lengths. -/
import Derived.Test.YtbhcahiafibhfaaRAx1
import Derived.Test.YtbhcahiafibhfaaRAxb
import Derived.Test.YtbhcahiafibhfaaPureLib
namespace Go.Proofs.Ytbhcahiafibhfaa.RA
open Go.RowKit Go.Proofs.YtbhcahiafibhfaaW.PrintWords Go.Proofs.YtbhcahiafibhfaaW.PrintLast
def Z39 (x : S39) : Prop := True ∧ True ∧ (x.f2.length * 8 ≤ 140737488351232 ∧ ∀ z354 ∈ x.f2, True) ∧ (x.f3.length * 8 ≤ 140737488351232 ∧ ∀ z355 ∈ x.f3, True)
theorem rdt39 (xs : List S39) (i : Nat) (h : i < xs.length) : rd_T39 xs (i : Int) = xs[i] := getD_at xs z39 i h
def Z41 (x : S41) : Prop := True ∧ True ∧ (x.f2.length * 8 ≤ 140737488351232 ∧ ∀ z356 ∈ x.f2, True) ∧ (x.f3.length * 8 ≤ 140737488351232 ∧ ∀ z357 ∈ x.f3, True)
theorem rdt41 (xs : List S41) (i : Nat) (h : i < xs.length) : rd_T41 xs (i : Int) = xs[i] := getD_at xs z41 i h
def cv39 (x : S39) : S41 := ⟨x.f0, x.f1, x.f2, x.f3⟩
theorem szIntS (x : List Int) (a : Int) (h : (x.length * 8 ≤ 140737488351232 ∧ ∀ z358 ∈ x, True)) : Ex (fun k => laws_szIntS.f  x a) := by
  unfold laws_szIntS.f
  skip
  repeat (first | exact Ex.now _ | refine Ex.ite ?_ ?_)
theorem szRing (x : S39) (a : Int) (h : Z39 x) : Ex (fun k => laws_szRing.f  x.f0 x.f1 x.f2 x.f3 a) := by
  unfold laws_szRing.f
  unfold Z39 at h
  repeat (first | exact Ex.now _ | refine Ex.ite ?_ ?_ | refine Ex.bind (szIntS (x.f2) _ h.2.2.1) (fun t => ?_) | refine Ex.bind (szIntS (x.f3) _ h.2.2.2) (fun t => ?_))
theorem toIntS (x : List Int) (h : (x.length * 8 ≤ 140737488351232 ∧ ∀ z359 ∈ x, True)) (hl : x.length ≤ 35184372088832) : Ev (fun k => laws_toIntS.f k  x) (x) := by
  have loop : ∀ (d i : Nat) (o : List Int), i + d = x.length → o.length = x.length → o.take i = (x).take i → Ev (fun k => laws_toIntS.l0 k x o (i : Int)) (x) := by
    intro d
    induction d with
    | zero =>
      intro i o hi ho hp
      obtain rfl : i = x.length := by omega
      exact Ev.step (fun k => rfl) (Ev.neg (by omega) (Ev.val (fill_done o (x) (by simpa using ho) (by simpa using hp))))
    | succ d ih =>
      intro i o hi ho hp
      have hi' : i < x.length := by omega
      refine Ev.step (fun k => rfl) (Ev.pos (by omega) (Ev.pos (by omega) ?_))
      skip
      rw [wr1 i (by have := h.1; omega)]
      refine Ev.pos (by omega) ?_
      exact ih (i + 1) _ (by omega) (by simpa using ho) (by rw [Int.toNat_natCast]; exact fill_next o (x) i _ (by simpa using ho) (by simpa using hi') (rd_at x i hi') hp)
  unfold laws_toIntS.f
  exact Ev.pos (by omega) (Ev.pos (by omega) (loop x.length 0 _ (by omega) (by simp) (by simp)))
theorem toRing (x : S39) (h : Z39 x) : Ev (fun k => laws_toRing.f k  x.f0 x.f1 x.f2 x.f3) ((cv39 x).f0, (cv39 x).f1, (cv39 x).f2, (cv39 x).f3) := by
  unfold laws_toRing.f
  unfold Z39 at h
  repeat (first | exact Ev.val rfl | refine Ev.bind (toIntS (x.f2) h.2.2.1 (by have := h.2.2.1.1; omega)) ?_ | refine Ev.bind (toIntS (x.f3) h.2.2.2 (by have := h.2.2.2.1; omega)) ?_)
theorem eqIntS (x : List Int) (h : (x.length * 8 ≤ 140737488351232 ∧ ∀ z360 ∈ x, True)) : Ev (fun k => laws_eqIntS.f k  x x) true := by
  have loop : ∀ (d i : Nat), i + d = x.length → Ev (fun k => laws_eqIntS.l0 k x x (i : Int)) true := by
    intro d
    induction d with
    | zero => intro i hi; exact Ev.step (fun k => rfl) (Ev.neg (by omega) (Ev.now _))
    | succ d ih =>
      intro i hi
      have hi' : i < x.length := by omega
      refine Ev.step (fun k => rfl) (Ev.pos (by omega) (Ev.pos (by omega) (Ev.pos (by omega) ?_)))
      skip
      rw [wr1 i (by have := h.1; omega)]
      refine Ev.pos rfl ?_
      exact ih (i + 1) (by omega)
  unfold laws_eqIntS.f
  exact Ev.pos rfl (loop x.length 0 (by omega))
theorem eqRing (x : S41) (h : Z41 x) : Ev (fun k => laws_eqRing.f k  x.f0 x.f1 x.f2 x.f3 x.f0 x.f1 x.f2 x.f3) true := by
  unfold laws_eqRing.f
  unfold Z41 at h
  repeat (first | exact Ev.val rfl | refine Ev.pos rfl ?_ | refine Ev.bind (eqIntS (x.f2) h.2.2.1) ?_ | refine Ev.bind (eqIntS (x.f3) h.2.2.2) ?_)
theorem z_of_b39 (x : S39) (h : B39 x) : Z39 x := ⟨trivial, trivial, ⟨by have z_ := h.2.2.1.1; omega, fun y_ hy_ => trivial⟩, ⟨by have z_ := h.2.2.2.1; omega, fun y_ hy_ => trivial⟩⟩
theorem z_cv39 (x : S39) (h : Z39 x) : Z41 (cv39 x) := ⟨trivial, trivial, h.2.2.1, h.2.2.2⟩
end Go.Proofs.Ytbhcahiafibhfaa.RA
