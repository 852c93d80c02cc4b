/- What the laws' own helpers tell: sizes, copies, comparisons. No condition beside lengths. -/
import Derived.Test.YtbhcahiafibhfaaQx1
import Derived.Test.YtbhcahiafibhfaaQx2
import Derived.Test.YtbhcahiafibhfaaQx3
import Derived.Test.YtbhcahiafibhfaaQxb
import Derived.Test.YtbhcahiafibhfaaPureLib
namespace Go.Proofs.Ytbhcahiafibhfaa.Q
open Go.RowKit Go.Proofs.YtbhcahiafibhfaaW.PrintWords Go.Proofs.YtbhcahiafibhfaaW.PrintLast
def Z68 (x : S68) : Prop := True ∧ (x.f1.length ≤ 140737488351232 ∧ ∀ z166 ∈ x.f1, True) ∧ (x.f2.length ≤ 140737488351232 ∧ ∀ z167 ∈ x.f2, True)
theorem rdt68 (xs : List S68) (i : Nat) (h : i < xs.length) : rd_T68 xs (i : Int) = xs[i] := getD_at xs z68 i h
def Z69 (x : S69) : Prop := True ∧ (x.f1.length ≤ 140737488351232 ∧ ∀ z168 ∈ x.f1, True) ∧ (x.f2.length ≤ 140737488351232 ∧ ∀ z169 ∈ x.f2, True)
theorem rdt69 (xs : List S69) (i : Nat) (h : i < xs.length) : rd_T69 xs (i : Int) = xs[i] := getD_at xs z69 i h
def cv68 (x : S68) : S69 := ⟨x.f0, x.f1, x.f2⟩
theorem szByteS (x : List Int) (a : Int) (h : (x.length ≤ 140737488351232 ∧ ∀ z170 ∈ x, True)) : Ex (fun k => laws_szByteS.f  x a) := by
  unfold laws_szByteS.f
  skip
  repeat (first | exact Ex.now _ | refine Ex.ite ?_ ?_)
theorem szDone (x : S68) (a : Int) (h : Z68 x) : Ex (fun k => laws_szDone.f  x.f0 x.f1 x.f2 a) := by
  unfold laws_szDone.f
  unfold Z68 at h
  repeat (first | exact Ex.now _ | refine Ex.ite ?_ ?_ | refine Ex.bind (szByteS _ _ (by first | exact h.1 | exact h.2 | simp_all)) (fun t => ?_))
theorem szDoneS (x : List (S68)) (a : Int) (h : (x.length ≤ 140737488351232 ∧ ∀ z171 ∈ x, Z68 z171)) : Ex (fun k => laws_szDoneS.f k  x a) := by
  have loop : ∀ (d i : Nat) (a : Int), i + d = x.length → Ex (fun k => laws_szDoneS.l0 k x a (i : Int)) := by
    intro d
    induction d with
    | zero => intro i a hi; exact Ex.step (fun k => rfl) ⟨_, Ev.neg (by omega) (Ev.now _)⟩
    | succ d ih =>
      intro i a hi
      have hi' : i < x.length := by omega
      refine Ex.step (fun k => rfl) (Ex.pos (by omega) (Ex.pos (by omega) ?_))
      rw [rdt68 x i hi']
      rw [wr1 i (by have := h.1; omega)]
      have he := h.2 _ (List.getElem_mem hi')
      have ih' := fun a => ih (i + 1) a (by omega)
      refine Ex.bind (szDone x[i] a he) (fun t => ?_)
      exact Ex.ite (Ex.now _) (ih' t)
  unfold laws_szDoneS.f
  exact Ex.ite (Ex.now _) (loop x.length 0 _ (by omega))
theorem toByteS (x : List Int) (h : (x.length ≤ 140737488351232 ∧ ∀ z172 ∈ x, True)) (hl : x.length ≤ 281474976710656) : Ev (fun k => laws_toByteS.f k  x) (x) := by
  have loop : ∀ (d i : Nat) (o : List Int), i + d = x.length → o.length = x.length → o.take i = (x).take i → Ev (fun k => laws_toByteS.l0 k x o (i : Int)) (x) := by
    intro d
    induction d with
    | zero =>
      intro i o hi ho hp
      obtain rfl : i = x.length := by omega
      exact Ev.step (fun k => rfl) (Ev.neg (by omega) (Ev.val (fill_done o (x) (by simpa using ho) (by simpa using hp))))
    | succ d ih =>
      intro i o hi ho hp
      have hi' : i < x.length := by omega
      refine Ev.step (fun k => rfl) (Ev.pos (by omega) (Ev.pos (by omega) ?_))
      skip
      rw [wr1 i (by have := h.1; omega)]
      refine Ev.pos (by omega) ?_
      exact ih (i + 1) _ (by omega) (by simpa using ho) (by rw [Int.toNat_natCast]; exact fill_next o (x) i _ (by simpa using ho) (by simpa using hi') (rd_at x i hi') hp)
  unfold laws_toByteS.f
  exact Ev.pos (by omega) (Ev.pos (by omega) (loop x.length 0 _ (by omega) (by simp) (by simp)))
theorem toDone (x : S68) (h : Z68 x) : Ev (fun k => laws_toDone.f k  x.f0 x.f1 x.f2) ((cv68 x).f0, (cv68 x).f1, (cv68 x).f2) := by
  unfold laws_toDone.f
  unfold Z68 at h
  repeat (first | exact Ev.val rfl | refine Ev.bind (toByteS _ (by first | exact h.1 | exact h.2 | simp_all) (by have := h; omega)) ?_)
theorem toDoneS (x : List (S68)) (h : (x.length ≤ 140737488351232 ∧ ∀ z173 ∈ x, Z68 z173)) (hl : x.length ≤ 5026338869833) : Ev (fun k => laws_toDoneS.f k  x) (x.map (fun z => cv68 z)) := by
  have loop : ∀ (d i : Nat) (o : List (S69)), i + d = x.length → o.length = x.length → o.take i = (x.map (fun z => cv68 z)).take i → Ev (fun k => laws_toDoneS.l0 k x o (i : Int)) (x.map (fun z => cv68 z)) := by
    intro d
    induction d with
    | zero =>
      intro i o hi ho hp
      obtain rfl : i = x.length := by omega
      exact Ev.step (fun k => rfl) (Ev.neg (by omega) (Ev.val (fill_done o (x.map (fun z => cv68 z)) (by simpa using ho) (by simpa using hp))))
    | succ d ih =>
      intro i o hi ho hp
      have hi' : i < x.length := by omega
      refine Ev.step (fun k => rfl) (Ev.pos (by omega) (Ev.pos (by omega) ?_))
      rw [rdt68 x i hi']
      rw [wr1 i (by have := h.1; omega)]
      refine Ev.bind (toDone x[i] (h.2 _ (List.getElem_mem hi'))) (Ev.pos (by omega) ?_)
      exact ih (i + 1) _ (by omega) (by simpa using ho) (by rw [Int.toNat_natCast]; exact fill_next o (x.map (fun z => cv68 z)) i _ (by simpa using ho) (by simpa using hi') (by simp [cv68]) hp)
  unfold laws_toDoneS.f
  exact Ev.pos (by omega) (Ev.pos (by omega) (loop x.length 0 _ (by omega) (by simp) (by simp)))
theorem eqByteS (x : List Int) (h : (x.length ≤ 140737488351232 ∧ ∀ z174 ∈ x, True)) : Ev (fun k => laws_eqByteS.f k  x x) true := by
  have loop : ∀ (d i : Nat), i + d = x.length → Ev (fun k => laws_eqByteS.l0 k x x (i : Int)) true := by
    intro d
    induction d with
    | zero => intro i hi; exact Ev.step (fun k => rfl) (Ev.neg (by omega) (Ev.now _))
    | succ d ih =>
      intro i hi
      have hi' : i < x.length := by omega
      refine Ev.step (fun k => rfl) (Ev.pos (by omega) (Ev.pos (by omega) (Ev.pos (by omega) ?_)))
      skip
      rw [wr1 i (by have := h.1; omega)]
      refine Ev.pos rfl ?_
      exact ih (i + 1) (by omega)
  unfold laws_eqByteS.f
  exact Ev.pos rfl (loop x.length 0 (by omega))
theorem eqDone (x : S69) (h : Z69 x) : Ev (fun k => laws_eqDone.f k  x.f0 x.f1 x.f2 x.f0 x.f1 x.f2) true := by
  unfold laws_eqDone.f
  unfold Z69 at h
  repeat (first | exact Ev.val rfl | refine Ev.pos rfl ?_ | refine Ev.bind (eqByteS _ (by first | exact h.1 | exact h.2 | simp_all)) ?_)
theorem eqDoneS (x : List (S69)) (h : (x.length ≤ 140737488351232 ∧ ∀ z175 ∈ x, Z69 z175)) : Ev (fun k => laws_eqDoneS.f k  x x) true := by
  have loop : ∀ (d i : Nat), i + d = x.length → Ev (fun k => laws_eqDoneS.l0 k x x (i : Int)) true := by
    intro d
    induction d with
    | zero => intro i hi; exact Ev.step (fun k => rfl) (Ev.neg (by omega) (Ev.now _))
    | succ d ih =>
      intro i hi
      have hi' : i < x.length := by omega
      refine Ev.step (fun k => rfl) (Ev.pos (by omega) (Ev.pos (by omega) (Ev.pos (by omega) ?_)))
      rw [rdt69 x i hi']
      rw [wr1 i (by have := h.1; omega)]
      refine Ev.bind (eqDone x[i] (h.2 _ (List.getElem_mem hi'))) (Ev.pos rfl ?_)
      exact ih (i + 1) (by omega)
  unfold laws_eqDoneS.f
  exact Ev.pos rfl (loop x.length 0 (by omega))
theorem z_of_b68 (x : S68) (h : B68 x) : Z68 x := ⟨trivial, ⟨by have z_ := h.2.1.1; omega, fun y_ hy_ => trivial⟩, ⟨by have z_ := h.2.2.1; omega, fun y_ hy_ => trivial⟩⟩
theorem z_cv68 (x : S68) (h : Z68 x) : Z69 (cv68 x) := ⟨trivial, h.2.1, h.2.2⟩
end Go.Proofs.Ytbhcahiafibhfaa.Q
