/- What the laws' own helpers tell: sizes, copies, comparisons. No condition beside lengths. -/
import Derived.Test.YtbhcahiafibhfaaVx1
import Derived.Test.YtbhcahiafibhfaaVx2
import Derived.Test.YtbhcahiafibhfaaVxb
import Derived.Test.YtbhcahiafibhfaaPureLib
namespace Go.Proofs.Ytbhcahiafibhfaa.V
open Go.RowKit Go.Proofs.YtbhcahiafibhfaaW.PrintWords Go.Proofs.YtbhcahiafibhfaaW.PrintLast
def Z32 (x : S32) : Prop := (x.f0.length * 1 ≤ 140737488351232 ∧ ∀ z249 ∈ x.f0, True) ∧ True ∧ (x.f2.length * 8 ≤ 140737488351232 ∧ ∀ z250 ∈ x.f2, True) ∧ True ∧ True ∧ True ∧ True ∧ True ∧ (x.f8.length * 1 ≤ 140737488351232 ∧ ∀ z251 ∈ x.f8, True)
theorem rdt32 (xs : List S32) (i : Nat) (h : i < xs.length) : rd_T32 xs (i : Int) = xs[i] := getD_at xs z32 i h
def Z35 (x : S35) : Prop := (x.f0.length * 1 ≤ 140737488351232 ∧ ∀ z252 ∈ x.f0, True) ∧ True ∧ (x.f2.length * 8 ≤ 140737488351232 ∧ ∀ z253 ∈ x.f2, True) ∧ True ∧ True ∧ True ∧ True ∧ True ∧ (x.f8.length * 1 ≤ 140737488351232 ∧ ∀ z254 ∈ x.f8, True)
theorem rdt35 (xs : List S35) (i : Nat) (h : i < xs.length) : rd_T35 xs (i : Int) = xs[i] := getD_at xs z35 i h
def cv32 (x : S32) : S35 := ⟨x.f0, x.f1, x.f2, x.f3, x.f4, x.f5, x.f6, x.f7, x.f8⟩
theorem szByteS (x : List Int) (a : Int) (h : (x.length * 1 ≤ 140737488351232 ∧ ∀ z255 ∈ x, True)) : Ex (fun k => laws_szByteS.f  x a) := by
  unfold laws_szByteS.f
  skip
  repeat (first | exact Ex.now _ | refine Ex.ite ?_ ?_)
theorem szIntS (x : List Int) (a : Int) (h : (x.length * 8 ≤ 140737488351232 ∧ ∀ z256 ∈ x, True)) : Ex (fun k => laws_szIntS.f  x a) := by
  unfold laws_szIntS.f
  skip
  repeat (first | exact Ex.now _ | refine Ex.ite ?_ ?_)
theorem szTask (x : S32) (a : Int) (h : Z32 x) : Ex (fun k => laws_szTask.f  x.f0 x.f1 x.f2 x.f3 x.f4 x.f5 x.f6 x.f7 x.f8 a) := by
  unfold laws_szTask.f
  unfold Z32 at h
  repeat (first | exact Ex.now _ | refine Ex.ite ?_ ?_ | refine Ex.bind (szByteS (x.f0) _ h.1) (fun t => ?_) | refine Ex.bind (szByteS (x.f8) _ h.2.2.2.2.2.2.2.2) (fun t => ?_) | refine Ex.bind (szIntS (x.f2) _ h.2.2.1) (fun t => ?_))
theorem toByteS (x : List Int) (h : (x.length * 1 ≤ 140737488351232 ∧ ∀ z257 ∈ x, True)) (hl : x.length ≤ 281474976710656) : Ev (fun k => laws_toByteS.f k  x) (x) := by
  have loop : ∀ (d i : Nat) (o : List Int), i + d = x.length → o.length = x.length → o.take i = (x).take i → Ev (fun k => laws_toByteS.l0 k x o (i : Int)) (x) := by
    intro d
    induction d with
    | zero =>
      intro i o hi ho hp
      obtain rfl : i = x.length := by omega
      exact Ev.step (fun k => rfl) (Ev.neg (by omega) (Ev.val (fill_done o (x) (by simpa using ho) (by simpa using hp))))
    | succ d ih =>
      intro i o hi ho hp
      have hi' : i < x.length := by omega
      refine Ev.step (fun k => rfl) (Ev.pos (by omega) (Ev.pos (by omega) ?_))
      skip
      rw [wr1 i (by have := h.1; omega)]
      refine Ev.pos (by omega) ?_
      exact ih (i + 1) _ (by omega) (by simpa using ho) (by rw [Int.toNat_natCast]; exact fill_next o (x) i _ (by simpa using ho) (by simpa using hi') (rd_at x i hi') hp)
  unfold laws_toByteS.f
  exact Ev.pos (by omega) (Ev.pos (by omega) (loop x.length 0 _ (by omega) (by simp) (by simp)))
theorem toIntS (x : List Int) (h : (x.length * 8 ≤ 140737488351232 ∧ ∀ z258 ∈ x, True)) (hl : x.length ≤ 35184372088832) : Ev (fun k => laws_toIntS.f k  x) (x) := by
  have loop : ∀ (d i : Nat) (o : List Int), i + d = x.length → o.length = x.length → o.take i = (x).take i → Ev (fun k => laws_toIntS.l0 k x o (i : Int)) (x) := by
    intro d
    induction d with
    | zero =>
      intro i o hi ho hp
      obtain rfl : i = x.length := by omega
      exact Ev.step (fun k => rfl) (Ev.neg (by omega) (Ev.val (fill_done o (x) (by simpa using ho) (by simpa using hp))))
    | succ d ih =>
      intro i o hi ho hp
      have hi' : i < x.length := by omega
      refine Ev.step (fun k => rfl) (Ev.pos (by omega) (Ev.pos (by omega) ?_))
      skip
      rw [wr1 i (by have := h.1; omega)]
      refine Ev.pos (by omega) ?_
      exact ih (i + 1) _ (by omega) (by simpa using ho) (by rw [Int.toNat_natCast]; exact fill_next o (x) i _ (by simpa using ho) (by simpa using hi') (rd_at x i hi') hp)
  unfold laws_toIntS.f
  exact Ev.pos (by omega) (Ev.pos (by omega) (loop x.length 0 _ (by omega) (by simp) (by simp)))
theorem toTask (x : S32) (h : Z32 x) : Ev (fun k => laws_toTask.f k  x.f0 x.f1 x.f2 x.f3 x.f4 x.f5 x.f6 x.f7 x.f8) ((cv32 x).f0, (cv32 x).f1, (cv32 x).f2, (cv32 x).f3, (cv32 x).f4, (cv32 x).f5, (cv32 x).f6, (cv32 x).f7, (cv32 x).f8) := by
  unfold laws_toTask.f
  unfold Z32 at h
  repeat (first | exact Ev.val rfl | refine Ev.bind (toByteS (x.f0) h.1 (by have := h.1.1; omega)) ?_ | refine Ev.bind (toByteS (x.f8) h.2.2.2.2.2.2.2.2 (by have := h.2.2.2.2.2.2.2.2.1; omega)) ?_ | refine Ev.bind (toIntS (x.f2) h.2.2.1 (by have := h.2.2.1.1; omega)) ?_)
theorem eqByteS (x : List Int) (h : (x.length * 1 ≤ 140737488351232 ∧ ∀ z259 ∈ x, True)) : Ev (fun k => laws_eqByteS.f k  x x) true := by
  have loop : ∀ (d i : Nat), i + d = x.length → Ev (fun k => laws_eqByteS.l0 k x x (i : Int)) true := by
    intro d
    induction d with
    | zero => intro i hi; exact Ev.step (fun k => rfl) (Ev.neg (by omega) (Ev.now _))
    | succ d ih =>
      intro i hi
      have hi' : i < x.length := by omega
      refine Ev.step (fun k => rfl) (Ev.pos (by omega) (Ev.pos (by omega) (Ev.pos (by omega) ?_)))
      skip
      rw [wr1 i (by have := h.1; omega)]
      refine Ev.pos rfl ?_
      exact ih (i + 1) (by omega)
  unfold laws_eqByteS.f
  exact Ev.pos rfl (loop x.length 0 (by omega))
theorem eqIntS (x : List Int) (h : (x.length * 8 ≤ 140737488351232 ∧ ∀ z260 ∈ x, True)) : Ev (fun k => laws_eqIntS.f k  x x) true := by
  have loop : ∀ (d i : Nat), i + d = x.length → Ev (fun k => laws_eqIntS.l0 k x x (i : Int)) true := by
    intro d
    induction d with
    | zero => intro i hi; exact Ev.step (fun k => rfl) (Ev.neg (by omega) (Ev.now _))
    | succ d ih =>
      intro i hi
      have hi' : i < x.length := by omega
      refine Ev.step (fun k => rfl) (Ev.pos (by omega) (Ev.pos (by omega) (Ev.pos (by omega) ?_)))
      skip
      rw [wr1 i (by have := h.1; omega)]
      refine Ev.pos rfl ?_
      exact ih (i + 1) (by omega)
  unfold laws_eqIntS.f
  exact Ev.pos rfl (loop x.length 0 (by omega))
theorem eqTask (x : S35) (h : Z35 x) : Ev (fun k => laws_eqTask.f k  x.f0 x.f1 x.f2 x.f3 x.f4 x.f5 x.f6 x.f7 x.f8 x.f0 x.f1 x.f2 x.f3 x.f4 x.f5 x.f6 x.f7 x.f8) true := by
  unfold laws_eqTask.f
  unfold Z35 at h
  repeat (first | exact Ev.val rfl | refine Ev.pos rfl ?_ | refine Ev.bind (eqByteS (x.f0) h.1) ?_ | refine Ev.bind (eqByteS (x.f8) h.2.2.2.2.2.2.2.2) ?_ | refine Ev.bind (eqIntS (x.f2) h.2.2.1) ?_)
theorem z_of_b32 (x : S32) (h : B32 x) : Z32 x := ⟨⟨by have z_ := h.1.1; omega, fun y_ hy_ => trivial⟩, trivial, ⟨by have z_ := h.2.2.1.1; omega, fun y_ hy_ => trivial⟩, trivial, trivial, trivial, trivial, trivial, ⟨by have z_ := h.2.2.2.2.2.2.2.2.1; omega, fun y_ hy_ => trivial⟩⟩
theorem z_cv32 (x : S32) (h : Z32 x) : Z35 (cv32 x) := ⟨h.1, trivial, h.2.2.1, trivial, trivial, trivial, trivial, trivial, h.2.2.2.2.2.2.2.2⟩
end Go.Proofs.Ytbhcahiafibhfaa.V
