/- What the laws' own helpers tell: sizes, copies, comparisons. No condition beside lengths. -/
import Derived.Test.YtdpbcmajmojolaaCx1
import Derived.Test.YtdpbcmajmojolaaCx2
import Derived.Test.YtdpbcmajmojolaaCx3
import Derived.Test.YtdpbcmajmojolaaCx4
import Derived.Test.YtdpbcmajmojolaaCx5
import Derived.Test.YtdpbcmajmojolaaCx6
import Derived.Test.YtdpbcmajmojolaaCx7
import Derived.Test.YtdpbcmajmojolaaCx8
import Derived.Test.YtdpbcmajmojolaaCxb
import Derived.Test.YtdpbcmajmojolaaPureLib
namespace Go.Proofs.Ytdpbcmajmojolaa.C
open Go.RowKit Go.Proofs.YtdpbcmajmojolaaW.PrintWords Go.Proofs.YtdpbcmajmojolaaW.PrintLast
def Z214 (x : S214) : Prop := x.f0.size ≤ 140737488351232 ∧ True ∧ True
theorem rdt214 (xs : List S214) (i : Nat) (h : i < xs.length) : rd_T214 xs (i : Int) = xs[i] := getD_at xs z214 i h
def Z151 (x : S151) : Prop := True ∧ True ∧ (x.f2.length * 8 ≤ 140737488351232 ∧ ∀ z390 ∈ x.f2, True) ∧ (x.f3.length * 8 ≤ 140737488351232 ∧ ∀ z391 ∈ x.f3, True)
theorem rdt151 (xs : List S151) (i : Nat) (h : i < xs.length) : rd_T151 xs (i : Int) = xs[i] := getD_at xs z151 i h
def Z216 (x : S216) : Prop := x.f0.size ≤ 140737488351232 ∧ x.f1.size ≤ 140737488351232 ∧ (x.f2.length * 1 ≤ 140737488351232 ∧ ∀ z392 ∈ x.f2, True)
theorem rdt216 (xs : List S216) (i : Nat) (h : i < xs.length) : rd_T216 xs (i : Int) = xs[i] := getD_at xs z216 i h
def Z154 (x : S154) : Prop := x.f0.size ≤ 140737488351232 ∧ True ∧ True ∧ True ∧ True ∧ (x.f5.length * 32 ≤ 140737488351232 ∧ ∀ z393 ∈ x.f5, Z214 z393) ∧ Z151 x.f6 ∧ (x.f7.length * 56 ≤ 140737488351232 ∧ ∀ z394 ∈ x.f7, Z216 z394)
theorem rdt154 (xs : List S154) (i : Nat) (h : i < xs.length) : rd_T154 xs (i : Int) = xs[i] := getD_at xs z154 i h
def Z132 (x : S132) : Prop := True ∧ (x.f1.length * 160 ≤ 140737488351232 ∧ ∀ z395 ∈ x.f1, Z154 z395)
theorem rdt132 (xs : List S132) (i : Nat) (h : i < xs.length) : rd_T132 xs (i : Int) = xs[i] := getD_at xs z132 i h
def Z145 (x : S145) : Prop := (x.f0.length * 1 ≤ 140737488351232 ∧ ∀ z396 ∈ x.f0, True) ∧ True ∧ (x.f2.length * 8 ≤ 140737488351232 ∧ ∀ z397 ∈ x.f2, True) ∧ True ∧ True ∧ True ∧ True ∧ True ∧ (x.f8.length * 1 ≤ 140737488351232 ∧ ∀ z398 ∈ x.f8, True)
theorem rdt145 (xs : List S145) (i : Nat) (h : i < xs.length) : rd_T145 xs (i : Int) = xs[i] := getD_at xs z145 i h
def Z25 (x : S25) : Prop := (x.f0.length * 32 ≤ 140737488351232 ∧ ∀ z399 ∈ x.f0, Z132 z399) ∧ True ∧ True ∧ (x.f3.length * 120 ≤ 140737488351232 ∧ ∀ z400 ∈ x.f3, Z145 z400)
theorem rdt25 (xs : List S25) (i : Nat) (h : i < xs.length) : rd_T25 xs (i : Int) = xs[i] := getD_at xs z25 i h
def Z61 (x : S61) : Prop := x.f0.size ≤ 140737488351232 ∧ True ∧ True
theorem rdt61 (xs : List S61) (i : Nat) (h : i < xs.length) : rd_T61 xs (i : Int) = xs[i] := getD_at xs z61 i h
def Z51 (x : S51) : Prop := True ∧ True ∧ (x.f2.length * 8 ≤ 140737488351232 ∧ ∀ z401 ∈ x.f2, True) ∧ (x.f3.length * 8 ≤ 140737488351232 ∧ ∀ z402 ∈ x.f3, True)
theorem rdt51 (xs : List S51) (i : Nat) (h : i < xs.length) : rd_T51 xs (i : Int) = xs[i] := getD_at xs z51 i h
def Z177 (x : S177) : Prop := x.f0.size ≤ 140737488351232 ∧ x.f1.size ≤ 140737488351232 ∧ (x.f2.length * 1 ≤ 140737488351232 ∧ ∀ z403 ∈ x.f2, True)
theorem rdt177 (xs : List S177) (i : Nat) (h : i < xs.length) : rd_T177 xs (i : Int) = xs[i] := getD_at xs z177 i h
def Z54 (x : S54) : Prop := x.f0.size ≤ 140737488351232 ∧ True ∧ True ∧ True ∧ True ∧ (x.f5.length * 32 ≤ 140737488351232 ∧ ∀ z404 ∈ x.f5, Z61 z404) ∧ Z51 x.f6 ∧ (x.f7.length * 56 ≤ 140737488351232 ∧ ∀ z405 ∈ x.f7, Z177 z405)
theorem rdt54 (xs : List S54) (i : Nat) (h : i < xs.length) : rd_T54 xs (i : Int) = xs[i] := getD_at xs z54 i h
def Z124 (x : S124) : Prop := True ∧ (x.f1.length * 160 ≤ 140737488351232 ∧ ∀ z406 ∈ x.f1, Z54 z406)
theorem rdt124 (xs : List S124) (i : Nat) (h : i < xs.length) : rd_T124 xs (i : Int) = xs[i] := getD_at xs z124 i h
def Z92 (x : S92) : Prop := (x.f0.length * 1 ≤ 140737488351232 ∧ ∀ z407 ∈ x.f0, True) ∧ True ∧ (x.f2.length * 8 ≤ 140737488351232 ∧ ∀ z408 ∈ x.f2, True) ∧ True ∧ True ∧ True ∧ True ∧ True ∧ (x.f8.length * 1 ≤ 140737488351232 ∧ ∀ z409 ∈ x.f8, True)
theorem rdt92 (xs : List S92) (i : Nat) (h : i < xs.length) : rd_T92 xs (i : Int) = xs[i] := getD_at xs z92 i h
def Z31 (x : S31) : Prop := (x.f0.length * 32 ≤ 140737488351232 ∧ ∀ z410 ∈ x.f0, Z124 z410) ∧ True ∧ True ∧ (x.f3.length * 120 ≤ 140737488351232 ∧ ∀ z411 ∈ x.f3, Z92 z411)
theorem rdt31 (xs : List S31) (i : Nat) (h : i < xs.length) : rd_T31 xs (i : Int) = xs[i] := getD_at xs z31 i h
def cv214 (x : S214) : S61 := ⟨x.f0, x.f1, x.f2⟩
def cv151 (x : S151) : S51 := ⟨x.f0, x.f1, x.f2, x.f3⟩
def cv216 (x : S216) : S177 := ⟨x.f0, x.f1, x.f2⟩
def cv154 (x : S154) : S54 := ⟨x.f0, x.f1, x.f2, x.f3, x.f4, x.f5.map (fun z => cv214 z), cv151 x.f6, x.f7.map (fun z => cv216 z)⟩
def cv132 (x : S132) : S124 := ⟨x.f0, x.f1.map (fun z => cv154 z)⟩
def cv145 (x : S145) : S92 := ⟨x.f0, x.f1, x.f2, x.f3, x.f4, x.f5, x.f6, x.f7, x.f8⟩
def cv25 (x : S25) : S31 := ⟨x.f0.map (fun z => cv132 z), x.f1, x.f2, x.f3.map (fun z => cv145 z)⟩
theorem szHold (x : S214) (a : Int) (h : Z214 x) : Ex (fun k => laws_szHold.f  x.f0 x.f1 x.f2 a) := by
  unfold laws_szHold.f
  unfold Z214 at h
  repeat (first | exact Ex.now _ | refine Ex.ite ?_ ?_)
theorem szHoldS (x : List (S214)) (a : Int) (h : (x.length * 32 ≤ 140737488351232 ∧ ∀ z412 ∈ x, Z214 z412)) : Ex (fun k => laws_szHoldS.f k  x a) := by
  have loop : ∀ (d i : Nat) (a : Int), i + d = x.length → Ex (fun k => laws_szHoldS.l0 k x a (i : Int)) := by
    intro d
    induction d with
    | zero => intro i a hi; exact Ex.step (fun k => rfl) ⟨_, Ev.neg (by omega) (Ev.now _)⟩
    | succ d ih =>
      intro i a hi
      have hi' : i < x.length := by omega
      refine Ex.step (fun k => rfl) (Ex.pos (by omega) (Ex.pos (by omega) ?_))
      rw [rdt214 x i hi']
      rw [wr1 i (by have := h.1; omega)]
      have he := h.2 _ (List.getElem_mem hi')
      have ih' := fun a => ih (i + 1) a (by omega)
      refine Ex.bind (szHold x[i] a he) (fun t => ?_)
      exact Ex.ite (Ex.now _) (ih' t)
  unfold laws_szHoldS.f
  exact Ex.ite (Ex.now _) (loop x.length 0 _ (by omega))
theorem szIntS (x : List Int) (a : Int) (h : (x.length * 8 ≤ 140737488351232 ∧ ∀ z413 ∈ x, True)) : Ex (fun k => laws_szIntS.f  x a) := by
  unfold laws_szIntS.f
  skip
  repeat (first | exact Ex.now _ | refine Ex.ite ?_ ?_)
theorem szRing (x : S151) (a : Int) (h : Z151 x) : Ex (fun k => laws_szRing.f  x.f0 x.f1 x.f2 x.f3 a) := by
  unfold laws_szRing.f
  unfold Z151 at h
  repeat (first | exact Ex.now _ | refine Ex.ite ?_ ?_ | refine Ex.bind (szIntS (x.f2) _ h.2.2.1) (fun t => ?_) | refine Ex.bind (szIntS (x.f3) _ h.2.2.2) (fun t => ?_))
theorem szByteS (x : List Int) (a : Int) (h : (x.length * 1 ≤ 140737488351232 ∧ ∀ z414 ∈ x, True)) : Ex (fun k => laws_szByteS.f  x a) := by
  unfold laws_szByteS.f
  skip
  repeat (first | exact Ex.now _ | refine Ex.ite ?_ ?_)
theorem szSlot (x : S216) (a : Int) (h : Z216 x) : Ex (fun k => laws_szSlot.f  x.f0 x.f1 x.f2 a) := by
  unfold laws_szSlot.f
  unfold Z216 at h
  repeat (first | exact Ex.now _ | refine Ex.ite ?_ ?_ | refine Ex.bind (szByteS (x.f2) _ h.2.2) (fun t => ?_))
theorem szSlotS (x : List (S216)) (a : Int) (h : (x.length * 56 ≤ 140737488351232 ∧ ∀ z415 ∈ x, Z216 z415)) : Ex (fun k => laws_szSlotS.f k  x a) := by
  have loop : ∀ (d i : Nat) (a : Int), i + d = x.length → Ex (fun k => laws_szSlotS.l0 k x a (i : Int)) := by
    intro d
    induction d with
    | zero => intro i a hi; exact Ex.step (fun k => rfl) ⟨_, Ev.neg (by omega) (Ev.now _)⟩
    | succ d ih =>
      intro i a hi
      have hi' : i < x.length := by omega
      refine Ex.step (fun k => rfl) (Ex.pos (by omega) (Ex.pos (by omega) ?_))
      rw [rdt216 x i hi']
      rw [wr1 i (by have := h.1; omega)]
      have he := h.2 _ (List.getElem_mem hi')
      have ih' := fun a => ih (i + 1) a (by omega)
      refine Ex.bind (szSlot x[i] a he) (fun t => ?_)
      exact Ex.ite (Ex.now _) (ih' t)
  unfold laws_szSlotS.f
  exact Ex.ite (Ex.now _) (loop x.length 0 _ (by omega))
theorem szAcct (x : S154) (a : Int) (h : Z154 x) : Ex (fun k => laws_szAcct.f k  x.f0 x.f1 x.f2 x.f3 x.f4 x.f5 x.f6.f0 x.f6.f1 x.f6.f2 x.f6.f3 x.f7 a) := by
  unfold laws_szAcct.f
  unfold Z154 at h
  repeat (first | exact Ex.now _ | refine Ex.ite ?_ ?_ | refine Ex.bind (szHoldS (x.f5) _ h.2.2.2.2.2.1) (fun t => ?_) | refine Ex.bind (szRing (x.f6) _ h.2.2.2.2.2.2.1) (fun t => ?_) | refine Ex.bind (szSlotS (x.f7) _ h.2.2.2.2.2.2.2) (fun t => ?_))
theorem szAcctS (x : List (S154)) (a : Int) (h : (x.length * 160 ≤ 140737488351232 ∧ ∀ z416 ∈ x, Z154 z416)) : Ex (fun k => laws_szAcctS.f k  x a) := by
  have loop : ∀ (d i : Nat) (a : Int), i + d = x.length → Ex (fun k => laws_szAcctS.l0 k x a (i : Int)) := by
    intro d
    induction d with
    | zero => intro i a hi; exact Ex.step (fun k => rfl) ⟨_, Ev.neg (by omega) (Ev.now _)⟩
    | succ d ih =>
      intro i a hi
      have hi' : i < x.length := by omega
      refine Ex.step (fun k => rfl) (Ex.pos (by omega) (Ex.pos (by omega) ?_))
      rw [rdt154 x i hi']
      rw [wr1 i (by have := h.1; omega)]
      have he := h.2 _ (List.getElem_mem hi')
      have ih' := fun a => ih (i + 1) a (by omega)
      refine Ex.bind (szAcct x[i] a he) (fun t => ?_)
      exact Ex.ite (Ex.now _) (ih' t)
  unfold laws_szAcctS.f
  exact Ex.ite (Ex.now _) (loop x.length 0 _ (by omega))
theorem szStripe (x : S132) (a : Int) (h : Z132 x) : Ex (fun k => laws_szStripe.f k  x.f0 x.f1 a) := by
  unfold laws_szStripe.f
  unfold Z132 at h
  repeat (first | exact Ex.now _ | refine Ex.ite ?_ ?_ | refine Ex.bind (szAcctS (x.f1) _ h.2) (fun t => ?_))
theorem szStripeS (x : List (S132)) (a : Int) (h : (x.length * 32 ≤ 140737488351232 ∧ ∀ z417 ∈ x, Z132 z417)) : Ex (fun k => laws_szStripeS.f k  x a) := by
  have loop : ∀ (d i : Nat) (a : Int), i + d = x.length → Ex (fun k => laws_szStripeS.l0 k x a (i : Int)) := by
    intro d
    induction d with
    | zero => intro i a hi; exact Ex.step (fun k => rfl) ⟨_, Ev.neg (by omega) (Ev.now _)⟩
    | succ d ih =>
      intro i a hi
      have hi' : i < x.length := by omega
      refine Ex.step (fun k => rfl) (Ex.pos (by omega) (Ex.pos (by omega) ?_))
      rw [rdt132 x i hi']
      rw [wr1 i (by have := h.1; omega)]
      have he := h.2 _ (List.getElem_mem hi')
      have ih' := fun a => ih (i + 1) a (by omega)
      refine Ex.bind (szStripe x[i] a he) (fun t => ?_)
      exact Ex.ite (Ex.now _) (ih' t)
  unfold laws_szStripeS.f
  exact Ex.ite (Ex.now _) (loop x.length 0 _ (by omega))
theorem szTask (x : S145) (a : Int) (h : Z145 x) : Ex (fun k => laws_szTask.f  x.f0 x.f1 x.f2 x.f3 x.f4 x.f5 x.f6 x.f7 x.f8 a) := by
  unfold laws_szTask.f
  unfold Z145 at h
  repeat (first | exact Ex.now _ | refine Ex.ite ?_ ?_ | refine Ex.bind (szIntS (x.f2) _ h.2.2.1) (fun t => ?_) | refine Ex.bind (szByteS (x.f0) _ h.1) (fun t => ?_) | refine Ex.bind (szByteS (x.f8) _ h.2.2.2.2.2.2.2.2) (fun t => ?_))
theorem szTaskS (x : List (S145)) (a : Int) (h : (x.length * 120 ≤ 140737488351232 ∧ ∀ z418 ∈ x, Z145 z418)) : Ex (fun k => laws_szTaskS.f k  x a) := by
  have loop : ∀ (d i : Nat) (a : Int), i + d = x.length → Ex (fun k => laws_szTaskS.l0 k x a (i : Int)) := by
    intro d
    induction d with
    | zero => intro i a hi; exact Ex.step (fun k => rfl) ⟨_, Ev.neg (by omega) (Ev.now _)⟩
    | succ d ih =>
      intro i a hi
      have hi' : i < x.length := by omega
      refine Ex.step (fun k => rfl) (Ex.pos (by omega) (Ex.pos (by omega) ?_))
      rw [rdt145 x i hi']
      rw [wr1 i (by have := h.1; omega)]
      have he := h.2 _ (List.getElem_mem hi')
      have ih' := fun a => ih (i + 1) a (by omega)
      refine Ex.bind (szTask x[i] a he) (fun t => ?_)
      exact Ex.ite (Ex.now _) (ih' t)
  unfold laws_szTaskS.f
  exact Ex.ite (Ex.now _) (loop x.length 0 _ (by omega))
theorem szWorld (x : S25) (a : Int) (h : Z25 x) : Ex (fun k => laws_szWorld.f k  x.f0 x.f1 x.f2 x.f3 a) := by
  unfold laws_szWorld.f
  unfold Z25 at h
  repeat (first | exact Ex.now _ | refine Ex.ite ?_ ?_ | refine Ex.bind (szStripeS (x.f0) _ h.1) (fun t => ?_) | refine Ex.bind (szTaskS (x.f3) _ h.2.2.2) (fun t => ?_))
theorem toHold (x : S214) (h : Z214 x) : Ev (fun k => laws_toHold.f  x.f0 x.f1 x.f2) ((cv214 x).f0, (cv214 x).f1, (cv214 x).f2) := by
  unfold laws_toHold.f
  unfold Z214 at h
  repeat (first | exact Ev.val rfl)
theorem toHoldS (x : List (S214)) (h : (x.length * 32 ≤ 140737488351232 ∧ ∀ z419 ∈ x, Z214 z419)) (hl : x.length ≤ 8796093022208) : Ev (fun k => laws_toHoldS.f k  x) (x.map (fun z => cv214 z)) := by
  have loop : ∀ (d i : Nat) (o : List (S61)), i + d = x.length → o.length = x.length → o.take i = (x.map (fun z => cv214 z)).take i → Ev (fun k => laws_toHoldS.l0 k x o (i : Int)) (x.map (fun z => cv214 z)) := by
    intro d
    induction d with
    | zero =>
      intro i o hi ho hp
      obtain rfl : i = x.length := by omega
      exact Ev.step (fun k => rfl) (Ev.neg (by omega) (Ev.val (fill_done o (x.map (fun z => cv214 z)) (by simpa using ho) (by simpa using hp))))
    | succ d ih =>
      intro i o hi ho hp
      have hi' : i < x.length := by omega
      refine Ev.step (fun k => rfl) (Ev.pos (by omega) (Ev.pos (by omega) ?_))
      rw [rdt214 x i hi']
      rw [wr1 i (by have := h.1; omega)]
      refine Ev.bind (toHold x[i] (h.2 _ (List.getElem_mem hi'))) (Ev.pos (by omega) ?_)
      exact ih (i + 1) _ (by omega) (by simpa using ho) (by rw [Int.toNat_natCast]; exact fill_next o (x.map (fun z => cv214 z)) i _ (by simpa using ho) (by simpa using hi') (by simp [cv214]) hp)
  unfold laws_toHoldS.f
  exact Ev.pos (by omega) (Ev.pos (by omega) (loop x.length 0 _ (by omega) (by simp) (by simp)))
theorem toIntS (x : List Int) (h : (x.length * 8 ≤ 140737488351232 ∧ ∀ z420 ∈ x, True)) (hl : x.length ≤ 35184372088832) : Ev (fun k => laws_toIntS.f k  x) (x) := by
  have loop : ∀ (d i : Nat) (o : List Int), i + d = x.length → o.length = x.length → o.take i = (x).take i → Ev (fun k => laws_toIntS.l0 k x o (i : Int)) (x) := by
    intro d
    induction d with
    | zero =>
      intro i o hi ho hp
      obtain rfl : i = x.length := by omega
      exact Ev.step (fun k => rfl) (Ev.neg (by omega) (Ev.val (fill_done o (x) (by simpa using ho) (by simpa using hp))))
    | succ d ih =>
      intro i o hi ho hp
      have hi' : i < x.length := by omega
      refine Ev.step (fun k => rfl) (Ev.pos (by omega) (Ev.pos (by omega) ?_))
      skip
      rw [wr1 i (by have := h.1; omega)]
      refine Ev.pos (by omega) ?_
      exact ih (i + 1) _ (by omega) (by simpa using ho) (by rw [Int.toNat_natCast]; exact fill_next o (x) i _ (by simpa using ho) (by simpa using hi') (rd_at x i hi') hp)
  unfold laws_toIntS.f
  exact Ev.pos (by omega) (Ev.pos (by omega) (loop x.length 0 _ (by omega) (by simp) (by simp)))
theorem toRing (x : S151) (h : Z151 x) : Ev (fun k => laws_toRing.f k  x.f0 x.f1 x.f2 x.f3) ((cv151 x).f0, (cv151 x).f1, (cv151 x).f2, (cv151 x).f3) := by
  unfold laws_toRing.f
  unfold Z151 at h
  repeat (first | exact Ev.val rfl | refine Ev.bind (toIntS (x.f2) h.2.2.1 (by have := h.2.2.1.1; omega)) ?_ | refine Ev.bind (toIntS (x.f3) h.2.2.2 (by have := h.2.2.2.1; omega)) ?_)
theorem toByteS (x : List Int) (h : (x.length * 1 ≤ 140737488351232 ∧ ∀ z421 ∈ x, True)) (hl : x.length ≤ 281474976710656) : Ev (fun k => laws_toByteS.f k  x) (x) := by
  have loop : ∀ (d i : Nat) (o : List Int), i + d = x.length → o.length = x.length → o.take i = (x).take i → Ev (fun k => laws_toByteS.l0 k x o (i : Int)) (x) := by
    intro d
    induction d with
    | zero =>
      intro i o hi ho hp
      obtain rfl : i = x.length := by omega
      exact Ev.step (fun k => rfl) (Ev.neg (by omega) (Ev.val (fill_done o (x) (by simpa using ho) (by simpa using hp))))
    | succ d ih =>
      intro i o hi ho hp
      have hi' : i < x.length := by omega
      refine Ev.step (fun k => rfl) (Ev.pos (by omega) (Ev.pos (by omega) ?_))
      skip
      rw [wr1 i (by have := h.1; omega)]
      refine Ev.pos (by omega) ?_
      exact ih (i + 1) _ (by omega) (by simpa using ho) (by rw [Int.toNat_natCast]; exact fill_next o (x) i _ (by simpa using ho) (by simpa using hi') (rd_at x i hi') hp)
  unfold laws_toByteS.f
  exact Ev.pos (by omega) (Ev.pos (by omega) (loop x.length 0 _ (by omega) (by simp) (by simp)))
theorem toSlot (x : S216) (h : Z216 x) : Ev (fun k => laws_toSlot.f k  x.f0 x.f1 x.f2) ((cv216 x).f0, (cv216 x).f1, (cv216 x).f2) := by
  unfold laws_toSlot.f
  unfold Z216 at h
  repeat (first | exact Ev.val rfl | refine Ev.bind (toByteS (x.f2) h.2.2 (by have := h.2.2.1; omega)) ?_)
theorem toSlotS (x : List (S216)) (h : (x.length * 56 ≤ 140737488351232 ∧ ∀ z422 ∈ x, Z216 z422)) (hl : x.length ≤ 5026338869833) : Ev (fun k => laws_toSlotS.f k  x) (x.map (fun z => cv216 z)) := by
  have loop : ∀ (d i : Nat) (o : List (S177)), i + d = x.length → o.length = x.length → o.take i = (x.map (fun z => cv216 z)).take i → Ev (fun k => laws_toSlotS.l0 k x o (i : Int)) (x.map (fun z => cv216 z)) := by
    intro d
    induction d with
    | zero =>
      intro i o hi ho hp
      obtain rfl : i = x.length := by omega
      exact Ev.step (fun k => rfl) (Ev.neg (by omega) (Ev.val (fill_done o (x.map (fun z => cv216 z)) (by simpa using ho) (by simpa using hp))))
    | succ d ih =>
      intro i o hi ho hp
      have hi' : i < x.length := by omega
      refine Ev.step (fun k => rfl) (Ev.pos (by omega) (Ev.pos (by omega) ?_))
      rw [rdt216 x i hi']
      rw [wr1 i (by have := h.1; omega)]
      refine Ev.bind (toSlot x[i] (h.2 _ (List.getElem_mem hi'))) (Ev.pos (by omega) ?_)
      exact ih (i + 1) _ (by omega) (by simpa using ho) (by rw [Int.toNat_natCast]; exact fill_next o (x.map (fun z => cv216 z)) i _ (by simpa using ho) (by simpa using hi') (by simp [cv216]) hp)
  unfold laws_toSlotS.f
  exact Ev.pos (by omega) (Ev.pos (by omega) (loop x.length 0 _ (by omega) (by simp) (by simp)))
theorem toAcct (x : S154) (h : Z154 x) : Ev (fun k => laws_toAcct.f k  x.f0 x.f1 x.f2 x.f3 x.f4 x.f5 x.f6.f0 x.f6.f1 x.f6.f2 x.f6.f3 x.f7) ((cv154 x).f0, (cv154 x).f1, (cv154 x).f2, (cv154 x).f3, (cv154 x).f4, (cv154 x).f5, (cv154 x).f6.f0, (cv154 x).f6.f1, (cv154 x).f6.f2, (cv154 x).f6.f3, (cv154 x).f7) := by
  unfold laws_toAcct.f
  unfold Z154 at h
  repeat (first | exact Ev.val rfl | refine Ev.bind (toHoldS (x.f5) h.2.2.2.2.2.1 (by have := h.2.2.2.2.2.1.1; omega)) ?_ | refine Ev.bind (toRing (x.f6) h.2.2.2.2.2.2.1) ?_ | refine Ev.bind (toSlotS (x.f7) h.2.2.2.2.2.2.2 (by have := h.2.2.2.2.2.2.2.1; omega)) ?_)
theorem toAcctS (x : List (S154)) (h : (x.length * 160 ≤ 140737488351232 ∧ ∀ z423 ∈ x, Z154 z423)) (hl : x.length ≤ 1759218604441) : Ev (fun k => laws_toAcctS.f k  x) (x.map (fun z => cv154 z)) := by
  have loop : ∀ (d i : Nat) (o : List (S54)), i + d = x.length → o.length = x.length → o.take i = (x.map (fun z => cv154 z)).take i → Ev (fun k => laws_toAcctS.l0 k x o (i : Int)) (x.map (fun z => cv154 z)) := by
    intro d
    induction d with
    | zero =>
      intro i o hi ho hp
      obtain rfl : i = x.length := by omega
      exact Ev.step (fun k => rfl) (Ev.neg (by omega) (Ev.val (fill_done o (x.map (fun z => cv154 z)) (by simpa using ho) (by simpa using hp))))
    | succ d ih =>
      intro i o hi ho hp
      have hi' : i < x.length := by omega
      refine Ev.step (fun k => rfl) (Ev.pos (by omega) (Ev.pos (by omega) ?_))
      rw [rdt154 x i hi']
      rw [wr1 i (by have := h.1; omega)]
      refine Ev.bind (toAcct x[i] (h.2 _ (List.getElem_mem hi'))) (Ev.pos (by omega) ?_)
      exact ih (i + 1) _ (by omega) (by simpa using ho) (by rw [Int.toNat_natCast]; exact fill_next o (x.map (fun z => cv154 z)) i _ (by simpa using ho) (by simpa using hi') (by simp [cv154]) hp)
  unfold laws_toAcctS.f
  exact Ev.pos (by omega) (Ev.pos (by omega) (loop x.length 0 _ (by omega) (by simp) (by simp)))
theorem toStripe (x : S132) (h : Z132 x) : Ev (fun k => laws_toStripe.f k  x.f0 x.f1) ((cv132 x).f0, (cv132 x).f1) := by
  unfold laws_toStripe.f
  unfold Z132 at h
  repeat (first | exact Ev.val rfl | refine Ev.bind (toAcctS (x.f1) h.2 (by have := h.2.1; omega)) ?_)
theorem toStripeS (x : List (S132)) (h : (x.length * 32 ≤ 140737488351232 ∧ ∀ z424 ∈ x, Z132 z424)) (hl : x.length ≤ 8796093022208) : Ev (fun k => laws_toStripeS.f k  x) (x.map (fun z => cv132 z)) := by
  have loop : ∀ (d i : Nat) (o : List (S124)), i + d = x.length → o.length = x.length → o.take i = (x.map (fun z => cv132 z)).take i → Ev (fun k => laws_toStripeS.l0 k x o (i : Int)) (x.map (fun z => cv132 z)) := by
    intro d
    induction d with
    | zero =>
      intro i o hi ho hp
      obtain rfl : i = x.length := by omega
      exact Ev.step (fun k => rfl) (Ev.neg (by omega) (Ev.val (fill_done o (x.map (fun z => cv132 z)) (by simpa using ho) (by simpa using hp))))
    | succ d ih =>
      intro i o hi ho hp
      have hi' : i < x.length := by omega
      refine Ev.step (fun k => rfl) (Ev.pos (by omega) (Ev.pos (by omega) ?_))
      rw [rdt132 x i hi']
      rw [wr1 i (by have := h.1; omega)]
      refine Ev.bind (toStripe x[i] (h.2 _ (List.getElem_mem hi'))) (Ev.pos (by omega) ?_)
      exact ih (i + 1) _ (by omega) (by simpa using ho) (by rw [Int.toNat_natCast]; exact fill_next o (x.map (fun z => cv132 z)) i _ (by simpa using ho) (by simpa using hi') (by simp [cv132]) hp)
  unfold laws_toStripeS.f
  exact Ev.pos (by omega) (Ev.pos (by omega) (loop x.length 0 _ (by omega) (by simp) (by simp)))
theorem toTask (x : S145) (h : Z145 x) : Ev (fun k => laws_toTask.f k  x.f0 x.f1 x.f2 x.f3 x.f4 x.f5 x.f6 x.f7 x.f8) ((cv145 x).f0, (cv145 x).f1, (cv145 x).f2, (cv145 x).f3, (cv145 x).f4, (cv145 x).f5, (cv145 x).f6, (cv145 x).f7, (cv145 x).f8) := by
  unfold laws_toTask.f
  unfold Z145 at h
  repeat (first | exact Ev.val rfl | refine Ev.bind (toIntS (x.f2) h.2.2.1 (by have := h.2.2.1.1; omega)) ?_ | refine Ev.bind (toByteS (x.f0) h.1 (by have := h.1.1; omega)) ?_ | refine Ev.bind (toByteS (x.f8) h.2.2.2.2.2.2.2.2 (by have := h.2.2.2.2.2.2.2.2.1; omega)) ?_)
theorem toTaskS (x : List (S145)) (h : (x.length * 120 ≤ 140737488351232 ∧ ∀ z425 ∈ x, Z145 z425)) (hl : x.length ≤ 2345624805922) : Ev (fun k => laws_toTaskS.f k  x) (x.map (fun z => cv145 z)) := by
  have loop : ∀ (d i : Nat) (o : List (S92)), i + d = x.length → o.length = x.length → o.take i = (x.map (fun z => cv145 z)).take i → Ev (fun k => laws_toTaskS.l0 k x o (i : Int)) (x.map (fun z => cv145 z)) := by
    intro d
    induction d with
    | zero =>
      intro i o hi ho hp
      obtain rfl : i = x.length := by omega
      exact Ev.step (fun k => rfl) (Ev.neg (by omega) (Ev.val (fill_done o (x.map (fun z => cv145 z)) (by simpa using ho) (by simpa using hp))))
    | succ d ih =>
      intro i o hi ho hp
      have hi' : i < x.length := by omega
      refine Ev.step (fun k => rfl) (Ev.pos (by omega) (Ev.pos (by omega) ?_))
      rw [rdt145 x i hi']
      rw [wr1 i (by have := h.1; omega)]
      refine Ev.bind (toTask x[i] (h.2 _ (List.getElem_mem hi'))) (Ev.pos (by omega) ?_)
      exact ih (i + 1) _ (by omega) (by simpa using ho) (by rw [Int.toNat_natCast]; exact fill_next o (x.map (fun z => cv145 z)) i _ (by simpa using ho) (by simpa using hi') (by simp [cv145]) hp)
  unfold laws_toTaskS.f
  exact Ev.pos (by omega) (Ev.pos (by omega) (loop x.length 0 _ (by omega) (by simp) (by simp)))
theorem toWorld (x : S25) (h : Z25 x) : Ev (fun k => laws_toWorld.f k  x.f0 x.f1 x.f2 x.f3) ((cv25 x).f0, (cv25 x).f1, (cv25 x).f2, (cv25 x).f3) := by
  unfold laws_toWorld.f
  unfold Z25 at h
  repeat (first | exact Ev.val rfl | refine Ev.bind (toStripeS (x.f0) h.1 (by have := h.1.1; omega)) ?_ | refine Ev.bind (toTaskS (x.f3) h.2.2.2 (by have := h.2.2.2.1; omega)) ?_)
theorem eqHold (x : S61) (h : Z61 x) : Ev (fun k => laws_eqHold.f  x.f0 x.f1 x.f2 x.f0 x.f1 x.f2) true := by
  unfold laws_eqHold.f
  unfold Z61 at h
  repeat (first | exact Ev.val rfl | refine Ev.pos rfl ?_)
theorem eqHoldS (x : List (S61)) (h : (x.length * 32 ≤ 140737488351232 ∧ ∀ z426 ∈ x, Z61 z426)) : Ev (fun k => laws_eqHoldS.f k  x x) true := by
  have loop : ∀ (d i : Nat), i + d = x.length → Ev (fun k => laws_eqHoldS.l0 k x x (i : Int)) true := by
    intro d
    induction d with
    | zero => intro i hi; exact Ev.step (fun k => rfl) (Ev.neg (by omega) (Ev.now _))
    | succ d ih =>
      intro i hi
      have hi' : i < x.length := by omega
      refine Ev.step (fun k => rfl) (Ev.pos (by omega) (Ev.pos (by omega) (Ev.pos (by omega) ?_)))
      rw [rdt61 x i hi']
      rw [wr1 i (by have := h.1; omega)]
      refine Ev.bind (eqHold x[i] (h.2 _ (List.getElem_mem hi'))) (Ev.pos rfl ?_)
      exact ih (i + 1) (by omega)
  unfold laws_eqHoldS.f
  exact Ev.pos rfl (loop x.length 0 (by omega))
theorem eqIntS (x : List Int) (h : (x.length * 8 ≤ 140737488351232 ∧ ∀ z427 ∈ x, True)) : Ev (fun k => laws_eqIntS.f k  x x) true := by
  have loop : ∀ (d i : Nat), i + d = x.length → Ev (fun k => laws_eqIntS.l0 k x x (i : Int)) true := by
    intro d
    induction d with
    | zero => intro i hi; exact Ev.step (fun k => rfl) (Ev.neg (by omega) (Ev.now _))
    | succ d ih =>
      intro i hi
      have hi' : i < x.length := by omega
      refine Ev.step (fun k => rfl) (Ev.pos (by omega) (Ev.pos (by omega) (Ev.pos (by omega) ?_)))
      skip
      rw [wr1 i (by have := h.1; omega)]
      refine Ev.pos rfl ?_
      exact ih (i + 1) (by omega)
  unfold laws_eqIntS.f
  exact Ev.pos rfl (loop x.length 0 (by omega))
theorem eqRing (x : S51) (h : Z51 x) : Ev (fun k => laws_eqRing.f k  x.f0 x.f1 x.f2 x.f3 x.f0 x.f1 x.f2 x.f3) true := by
  unfold laws_eqRing.f
  unfold Z51 at h
  repeat (first | exact Ev.val rfl | refine Ev.pos rfl ?_ | refine Ev.bind (eqIntS (x.f2) h.2.2.1) ?_ | refine Ev.bind (eqIntS (x.f3) h.2.2.2) ?_)
theorem eqByteS (x : List Int) (h : (x.length * 1 ≤ 140737488351232 ∧ ∀ z428 ∈ x, True)) : Ev (fun k => laws_eqByteS.f k  x x) true := by
  have loop : ∀ (d i : Nat), i + d = x.length → Ev (fun k => laws_eqByteS.l0 k x x (i : Int)) true := by
    intro d
    induction d with
    | zero => intro i hi; exact Ev.step (fun k => rfl) (Ev.neg (by omega) (Ev.now _))
    | succ d ih =>
      intro i hi
      have hi' : i < x.length := by omega
      refine Ev.step (fun k => rfl) (Ev.pos (by omega) (Ev.pos (by omega) (Ev.pos (by omega) ?_)))
      skip
      rw [wr1 i (by have := h.1; omega)]
      refine Ev.pos rfl ?_
      exact ih (i + 1) (by omega)
  unfold laws_eqByteS.f
  exact Ev.pos rfl (loop x.length 0 (by omega))
theorem eqSlot (x : S177) (h : Z177 x) : Ev (fun k => laws_eqSlot.f k  x.f0 x.f1 x.f2 x.f0 x.f1 x.f2) true := by
  unfold laws_eqSlot.f
  unfold Z177 at h
  repeat (first | exact Ev.val rfl | refine Ev.pos rfl ?_ | refine Ev.bind (eqByteS (x.f2) h.2.2) ?_)
theorem eqSlotS (x : List (S177)) (h : (x.length * 56 ≤ 140737488351232 ∧ ∀ z429 ∈ x, Z177 z429)) : Ev (fun k => laws_eqSlotS.f k  x x) true := by
  have loop : ∀ (d i : Nat), i + d = x.length → Ev (fun k => laws_eqSlotS.l0 k x x (i : Int)) true := by
    intro d
    induction d with
    | zero => intro i hi; exact Ev.step (fun k => rfl) (Ev.neg (by omega) (Ev.now _))
    | succ d ih =>
      intro i hi
      have hi' : i < x.length := by omega
      refine Ev.step (fun k => rfl) (Ev.pos (by omega) (Ev.pos (by omega) (Ev.pos (by omega) ?_)))
      rw [rdt177 x i hi']
      rw [wr1 i (by have := h.1; omega)]
      refine Ev.bind (eqSlot x[i] (h.2 _ (List.getElem_mem hi'))) (Ev.pos rfl ?_)
      exact ih (i + 1) (by omega)
  unfold laws_eqSlotS.f
  exact Ev.pos rfl (loop x.length 0 (by omega))
theorem eqAcct (x : S54) (h : Z54 x) : Ev (fun k => laws_eqAcct.f k  x.f0 x.f1 x.f2 x.f3 x.f4 x.f5 x.f6.f0 x.f6.f1 x.f6.f2 x.f6.f3 x.f7 x.f0 x.f1 x.f2 x.f3 x.f4 x.f5 x.f6.f0 x.f6.f1 x.f6.f2 x.f6.f3 x.f7) true := by
  unfold laws_eqAcct.f
  unfold Z54 at h
  repeat (first | exact Ev.val rfl | refine Ev.pos rfl ?_ | refine Ev.bind (eqHoldS (x.f5) h.2.2.2.2.2.1) ?_ | refine Ev.bind (eqRing (x.f6) h.2.2.2.2.2.2.1) ?_ | refine Ev.bind (eqSlotS (x.f7) h.2.2.2.2.2.2.2) ?_)
theorem eqAcctS (x : List (S54)) (h : (x.length * 160 ≤ 140737488351232 ∧ ∀ z430 ∈ x, Z54 z430)) : Ev (fun k => laws_eqAcctS.f k  x x) true := by
  have loop : ∀ (d i : Nat), i + d = x.length → Ev (fun k => laws_eqAcctS.l0 k x x (i : Int)) true := by
    intro d
    induction d with
    | zero => intro i hi; exact Ev.step (fun k => rfl) (Ev.neg (by omega) (Ev.now _))
    | succ d ih =>
      intro i hi
      have hi' : i < x.length := by omega
      refine Ev.step (fun k => rfl) (Ev.pos (by omega) (Ev.pos (by omega) (Ev.pos (by omega) ?_)))
      rw [rdt54 x i hi']
      rw [wr1 i (by have := h.1; omega)]
      refine Ev.bind (eqAcct x[i] (h.2 _ (List.getElem_mem hi'))) (Ev.pos rfl ?_)
      exact ih (i + 1) (by omega)
  unfold laws_eqAcctS.f
  exact Ev.pos rfl (loop x.length 0 (by omega))
theorem eqStripe (x : S124) (h : Z124 x) : Ev (fun k => laws_eqStripe.f k  x.f0 x.f1 x.f0 x.f1) true := by
  unfold laws_eqStripe.f
  unfold Z124 at h
  repeat (first | exact Ev.val rfl | refine Ev.pos rfl ?_ | refine Ev.bind (eqAcctS (x.f1) h.2) ?_)
theorem eqStripeS (x : List (S124)) (h : (x.length * 32 ≤ 140737488351232 ∧ ∀ z431 ∈ x, Z124 z431)) : Ev (fun k => laws_eqStripeS.f k  x x) true := by
  have loop : ∀ (d i : Nat), i + d = x.length → Ev (fun k => laws_eqStripeS.l0 k x x (i : Int)) true := by
    intro d
    induction d with
    | zero => intro i hi; exact Ev.step (fun k => rfl) (Ev.neg (by omega) (Ev.now _))
    | succ d ih =>
      intro i hi
      have hi' : i < x.length := by omega
      refine Ev.step (fun k => rfl) (Ev.pos (by omega) (Ev.pos (by omega) (Ev.pos (by omega) ?_)))
      rw [rdt124 x i hi']
      rw [wr1 i (by have := h.1; omega)]
      refine Ev.bind (eqStripe x[i] (h.2 _ (List.getElem_mem hi'))) (Ev.pos rfl ?_)
      exact ih (i + 1) (by omega)
  unfold laws_eqStripeS.f
  exact Ev.pos rfl (loop x.length 0 (by omega))
theorem eqTask (x : S92) (h : Z92 x) : Ev (fun k => laws_eqTask.f k  x.f0 x.f1 x.f2 x.f3 x.f4 x.f5 x.f6 x.f7 x.f8 x.f0 x.f1 x.f2 x.f3 x.f4 x.f5 x.f6 x.f7 x.f8) true := by
  unfold laws_eqTask.f
  unfold Z92 at h
  repeat (first | exact Ev.val rfl | refine Ev.pos rfl ?_ | refine Ev.bind (eqIntS (x.f2) h.2.2.1) ?_ | refine Ev.bind (eqByteS (x.f0) h.1) ?_ | refine Ev.bind (eqByteS (x.f8) h.2.2.2.2.2.2.2.2) ?_)
theorem eqTaskS (x : List (S92)) (h : (x.length * 120 ≤ 140737488351232 ∧ ∀ z432 ∈ x, Z92 z432)) : Ev (fun k => laws_eqTaskS.f k  x x) true := by
  have loop : ∀ (d i : Nat), i + d = x.length → Ev (fun k => laws_eqTaskS.l0 k x x (i : Int)) true := by
    intro d
    induction d with
    | zero => intro i hi; exact Ev.step (fun k => rfl) (Ev.neg (by omega) (Ev.now _))
    | succ d ih =>
      intro i hi
      have hi' : i < x.length := by omega
      refine Ev.step (fun k => rfl) (Ev.pos (by omega) (Ev.pos (by omega) (Ev.pos (by omega) ?_)))
      rw [rdt92 x i hi']
      rw [wr1 i (by have := h.1; omega)]
      refine Ev.bind (eqTask x[i] (h.2 _ (List.getElem_mem hi'))) (Ev.pos rfl ?_)
      exact ih (i + 1) (by omega)
  unfold laws_eqTaskS.f
  exact Ev.pos rfl (loop x.length 0 (by omega))
theorem eqWorld (x : S31) (h : Z31 x) : Ev (fun k => laws_eqWorld.f k  x.f0 x.f1 x.f2 x.f3 x.f0 x.f1 x.f2 x.f3) true := by
  unfold laws_eqWorld.f
  unfold Z31 at h
  repeat (first | exact Ev.val rfl | refine Ev.pos rfl ?_ | refine Ev.bind (eqStripeS (x.f0) h.1) ?_ | refine Ev.bind (eqTaskS (x.f3) h.2.2.2) ?_)
theorem z_of_b214 (x : S214) (h : B214 x) : Z214 x := ⟨h.1, trivial, trivial⟩
theorem z_of_b151 (x : S151) (h : B151 x) : Z151 x := ⟨trivial, trivial, ⟨by have z_ := h.2.2.1.1; omega, fun y_ hy_ => trivial⟩, ⟨by have z_ := h.2.2.2.1; omega, fun y_ hy_ => trivial⟩⟩
theorem z_of_b216 (x : S216) (h : B216 x) : Z216 x := ⟨h.1, h.2.1, ⟨by have z_ := h.2.2.1; omega, fun y_ hy_ => trivial⟩⟩
theorem z_of_b154 (x : S154) (h : B154 x) : Z154 x := ⟨h.1, trivial, trivial, trivial, trivial, ⟨by have z_ := h.2.2.2.2.2.1.1; omega, fun y_ hy_ => z_of_b214 _ (h.2.2.2.2.2.1.2 y_ hy_)⟩, z_of_b151 _ h.2.2.2.2.2.2.1, ⟨by have z_ := h.2.2.2.2.2.2.2.1; omega, fun y_ hy_ => z_of_b216 _ (h.2.2.2.2.2.2.2.2 y_ hy_)⟩⟩
theorem z_of_b132 (x : S132) (h : B132 x) : Z132 x := ⟨trivial, ⟨by have z_ := h.2.1; omega, fun y_ hy_ => z_of_b154 _ (h.2.2 y_ hy_)⟩⟩
theorem z_of_b145 (x : S145) (h : B145 x) : Z145 x := ⟨⟨by have z_ := h.1.1; omega, fun y_ hy_ => trivial⟩, trivial, ⟨by have z_ := h.2.2.1.1; omega, fun y_ hy_ => trivial⟩, trivial, trivial, trivial, trivial, trivial, ⟨by have z_ := h.2.2.2.2.2.2.2.2.1; omega, fun y_ hy_ => trivial⟩⟩
theorem z_of_b25 (x : S25) (h : B25 x) : Z25 x := ⟨⟨by have z_ := h.1.1; omega, fun y_ hy_ => z_of_b132 _ (h.1.2 y_ hy_)⟩, trivial, trivial, ⟨by have z_ := h.2.2.2.1; omega, fun y_ hy_ => z_of_b145 _ (h.2.2.2.2 y_ hy_)⟩⟩
theorem z_cv214 (x : S214) (h : Z214 x) : Z61 (cv214 x) := ⟨h.1, trivial, trivial⟩
theorem z_cv151 (x : S151) (h : Z151 x) : Z51 (cv151 x) := ⟨trivial, trivial, h.2.2.1, h.2.2.2⟩
theorem z_cv216 (x : S216) (h : Z216 x) : Z177 (cv216 x) := ⟨h.1, h.2.1, h.2.2⟩
theorem z_cv154 (x : S154) (h : Z154 x) : Z54 (cv154 x) := ⟨h.1, trivial, trivial, trivial, trivial, ⟨by have z_ := h.2.2.2.2.2.1.1; (try simp only [cv214, cv151, cv216, cv154, cv132, cv145, cv25, List.length_map]); omega, fun y_ hy_ => by obtain ⟨x_, hx_, rfl⟩ := List.mem_map.1 hy_; exact z_cv214 _ (h.2.2.2.2.2.1.2 x_ hx_)⟩, z_cv151 _ h.2.2.2.2.2.2.1, ⟨by have z_ := h.2.2.2.2.2.2.2.1; (try simp only [cv214, cv151, cv216, cv154, cv132, cv145, cv25, List.length_map]); omega, fun y_ hy_ => by obtain ⟨x_, hx_, rfl⟩ := List.mem_map.1 hy_; exact z_cv216 _ (h.2.2.2.2.2.2.2.2 x_ hx_)⟩⟩
theorem z_cv132 (x : S132) (h : Z132 x) : Z124 (cv132 x) := ⟨trivial, ⟨by have z_ := h.2.1; (try simp only [cv214, cv151, cv216, cv154, cv132, cv145, cv25, List.length_map]); omega, fun y_ hy_ => by obtain ⟨x_, hx_, rfl⟩ := List.mem_map.1 hy_; exact z_cv154 _ (h.2.2 x_ hx_)⟩⟩
theorem z_cv145 (x : S145) (h : Z145 x) : Z92 (cv145 x) := ⟨h.1, trivial, h.2.2.1, trivial, trivial, trivial, trivial, trivial, h.2.2.2.2.2.2.2.2⟩
theorem z_cv25 (x : S25) (h : Z25 x) : Z31 (cv25 x) := ⟨⟨by have z_ := h.1.1; (try simp only [cv214, cv151, cv216, cv154, cv132, cv145, cv25, List.length_map]); omega, fun y_ hy_ => by obtain ⟨x_, hx_, rfl⟩ := List.mem_map.1 hy_; exact z_cv132 _ (h.1.2 x_ hx_)⟩, trivial, trivial, ⟨by have z_ := h.2.2.2.1; (try simp only [cv214, cv151, cv216, cv154, cv132, cv145, cv25, List.length_map]); omega, fun y_ hy_ => by obtain ⟨x_, hx_, rfl⟩ := List.mem_map.1 hy_; exact z_cv145 _ (h.2.2.2.2 x_ hx_)⟩⟩
end Go.Proofs.Ytdpbcmajmojolaa.C
