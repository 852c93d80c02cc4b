/- Words for printed texts. No condition. -/
import Derived.Test.YtdahdpnkppknfaaGreatDoorM16
import Derived.Laws.BitsLemmas
namespace Go.Proofs.YtdahdpnkppknfaaGreatDoorM
set_option linter.unusedVariables false
set_option linter.unusedSimpArgs false
open Go.RowKit

/-- Where it yields something, that is so. -/
def Pn {α : Type} (Q : α → Prop) (o : Option α) : Prop := ∀ y, o = some y → Q y
/-- How a loop is left: by its end, or otherwise. -/
inductive Lo (σ ρ : Type) where
  | out (s : σ)
  | ret (r : ρ)
def Lo.elim {σ ρ α : Type} (y : Lo σ ρ) (f : σ → α) (g : ρ → α) : α := match y with
  | .out s => f s
  | .ret r => g r
section
variable {α β : Type} {Q : α → Prop}
theorem Pn.none : Pn Q (Option.none : Option α) := fun y h => by cases h
theorem Pn.some {y : α} (h : Q y) : Pn Q (Option.some y) := fun z e => by cases e; exact h
theorem Pn.ite {c : Bool} {A B : Option α} (h1 : c = true → Pn Q A) (h2 : c = false → Pn Q B) : Pn Q (if c = true then A else B) := by
  cases c with
  | true => exact h1 rfl
  | false => exact h2 rfl
theorem Pn.bind {o : Option β} {k : β → Option α} (h : ∀ x, o = Option.some x → Pn Q (k x)) : Pn Q (o.bind k) := by
  cases o with
  | none => exact Pn.none
  | some x => exact h x rfl
theorem Pn.lo {σ ρ : Type} {y : Lo σ ρ} {A : σ → Option α} {B : ρ → Option α} (h1 : ∀ s, y = .out s → Pn Q (A s)) (h2 : ∀ r, y = .ret r → Pn Q (B r)) : Pn Q (Lo.elim y A B) := by
  cases y with
  | out s => exact h1 s rfl
  | ret r => exact h2 r rfl
theorem Pn.imp {Q' : α → Prop} {o : Option α} (h : Pn Q o) (hi : ∀ y, Q y → Q' y) : Pn Q' o := fun y e => hi y (h y e)
theorem Pn.cut {o : Option α} {c : Bool} (h : c = true → Pn Q o) : Pn Q (if c = true then o else Option.none) := Pn.ite h (fun _ => Pn.none)
end
/-- A loop, left as K says. -/
def LpO (P : Program) (c : Code) (S : St) {α : Type} (K : α → X × St) (y : α) : Prop := Loop P c S (K y).1 (K y).2
theorem LpO.at {P : Program} {c : Code} {S : St} {α : Type} {K : α → X × St} {y z : α} (h : LpO P c S K y) (e : y = z) : Loop P c S (K z).1 (K z).2 := e ▸ h
theorem LpO.go {P : Program} {c : Code} {S S2 : St} {α : Type} {K : α → X × St} {o : Option α} (its : List It) {p : List Prop} (h : vht P c S its = some (.go, S2, p)) (hp : conj p) (h2 : Pn (LpO P c S2 K) o) : Pn (LpO P c S K) o :=
  h2.imp fun _ hy => Loop.go its h hp hy
theorem LpO.out {P : Program} {c : Code} {S : St} {α : Type} {K : α → X × St} {y : α} (its : List It) {p : List Prop} (h : vht P c S its = some ((K y).1, (K y).2, p)) (hx : (K y).1 ≠ .go) (hp : conj p) : LpO P c S K y :=
  Loop.out its h hx hp
/-- A piece of code with branches: it ends so. -/
def JnO (P : Program) (c : Code) (S : St) {α : Type} (K : α → X × St) (y : α) : Prop := HT P c S (K y).1 (K y).2
theorem JnO.at {P : Program} {c : Code} {S : St} {α : Type} {K : α → X × St} {y z : α} (h : JnO P c S K y) (e : y = z) : HT P c S (K z).1 (K z).2 := e ▸ h
theorem JnO.of {P : Program} {c : Code} {S : St} {α : Type} {K : α → X × St} {y : α} (its : List It) {p : List Prop} (h : vht P c S its = some ((K y).1, (K y).2, p)) (hp : conj p) : JnO P c S K y := HT.of its h hp
def i64 (x : Int) : Int := IntKind.i64.wrap x
def u8 (x : Int) : Int := IntKind.u8.wrap x
def i32 (x : Int) : Int := IntKind.i32.wrap x
def u32 (x : Int) : Int := IntKind.u32.wrap x
def u64 (x : Int) : Int := IntKind.u64.wrap x
def band (k : IntKind) (a b : Int) : Int := k.wrap ((BitVec.ofInt k.bits a &&& BitVec.ofInt k.bits b).toNat)
def bor (k : IntKind) (a b : Int) : Int := k.wrap ((BitVec.ofInt k.bits a ||| BitVec.ofInt k.bits b).toNat)
def bxor (k : IntKind) (a b : Int) : Int := k.wrap ((BitVec.ofInt k.bits a ^^^ BitVec.ofInt k.bits b).toNat)
def bshl (k : IntKind) (a b : Int) : Int := k.wrap (a * 2 ^ min b.toNat k.bits)
def bshr (k : IntKind) (a b : Int) : Int := a.fdiv (2 ^ min b.toNat k.bits)
def imax (a b : Int) : Int := if a < b then b else a
def imin (a b : Int) : Int := if b < a then b else a
def sAt (s : ByteArray) (n : Int) : Int := ((s.data.getD n.toNat 0).toNat : Int)
theorem Fn.as {P : Program} {f : Nat} {args : List (Bool × V)} {res res' : V} {outs outs' : List V} (e : res = res') (eo : outs = outs') (h : Fn P f args res outs) : Fn P f args res' outs' := by subst e eo; exact h
theorem Fn.args {P : Program} {f : Nat} {args args' : List (Bool × V)} {res : V} {outs : List V} (e : args = args') (h : Fn P f args res outs) : Fn P f args' res outs := by subst e; exact h
theorem cj1 {p : Prop} (h : p) : conj [p] := h
theorem cj {p q : Prop} {l : List Prop} (h : p) (h2 : conj (q :: l)) : conj (p :: q :: l) := ⟨h, h2⟩
def bs (l : List UInt8) : ByteArray := ⟨⟨l⟩⟩
/-- So many elements may be laid. -/
def capOk (n : Nat) : Bool := decide (n ≤ 274877906944)
/-- How often a loop is tried. -/
def FUEL : Nat := 4194304
theorem nt {b : Bool} (h : b = false) : (!b) = true := by rw [h]; rfl
theorem nf {b : Bool} (h : b = true) : (!b) = false := by rw [h]; rfl
theorem od {p : Prop} [Decidable p] (h : decide p = true) : p := of_decide_eq_true h
theorem cap1 {n : Nat} (h : capOk n = true) : n ≤ 9223372036854775807 := by have := of_decide_eq_true h; omega
theorem cap2 {n b : Nat} (h : capOk n = true) (hb : b ≤ 512) : n * b ≤ 140737488355328 := by
  have := of_decide_eq_true h
  have : n * b ≤ 274877906944 * 512 := Nat.mul_le_mul this hb
  omega
theorem capN {n m : Nat} (e : n = m) (h : capOk m = true) : capOk n = true := e ▸ h
theorem cap3 {n : Int} (h0 : decide (0 ≤ n) = true) (h : capOk n.toNat = true) : n ≤ 9223372036854775807 := by have := of_decide_eq_true h; have := of_decide_eq_true h0; omega
theorem cap5 {n : Int} (h0 : decide (0 < n) = true) (h : capOk n.toNat = true) : n ≤ 9223372036854775807 := by have := of_decide_eq_true h; have := of_decide_eq_true h0; omega
theorem cap4 {n b : Nat} (h : capOk n = true) (hb : b ≤ 512) : b * n ≤ 281474976710656 := by have := cap2 h hb; rw [Nat.mul_comm]; omega
section
variable {α β : Type}
theorem len_nm (f : α → V) (l : List α) : V.sc (.int .i64 ((l.map f).length : Int)) = V.sc (.int .i64 (l.length : Int)) := by rw [List.length_map]
theorem nb_app {e : Nat} (f : α → V) (l l2 : List α) : Blk.row e (l.map f ++ l2.map f) [] = Blk.row e ((l ++ l2).map f) [] := by rw [List.map_append]
theorem nb_rep {e : Nat} (f : α → V) (n : Nat) (x : α) : Blk.row e (List.replicate n (f x)) [] = Blk.row e ((List.replicate n x).map f) [] := by rw [List.map_replicate]
theorem nb_set {e : Nat} (f : α → V) (l : List α) (i : Nat) (x : α) : Blk.row e ((l.map f).set i (f x)) [] = Blk.row e ((l.set i x).map f) [] := by rw [List.map_set]
theorem nb_set2 {e : Nat} (f : α → V) (l : List α) (i : Nat) (x : α) (j : Nat) (y : α) : Blk.row e (((l.map f).set i (f x)).set j (f y)) [] = Blk.row e (((l.set i x).set j y).map f) [] := by rw [List.map_set, List.map_set]
theorem nb_clr {e : Nat} (f : α → V) (l : List α) (a b : Nat) (x : α) : Blk.row e ((l.map f).take a ++ (List.replicate b (f x) ++ (l.map f).drop (a + b))) [] = Blk.row e ((l.take a ++ (List.replicate b x ++ l.drop (a + b))).map f) [] := by
  rw [List.map_append, List.map_append, List.map_take, List.map_drop, List.map_replicate]
theorem sb_take {e : Nat} (f : α → V) (l : List α) (k : Nat) : V.sl true e ((l.map f).take k) = V.sl true e ((l.take k).map f) := by rw [List.map_take]
theorem nm_cut {e : Nat} (o : Bool) (f : α → V) (l : List α) (a b : Nat) : V.sl o e (((l.map f).take b).drop a) = V.sl o e (((l.take b).drop a).map f) := by rw [List.map_drop, List.map_take]
theorem cut_map (f : α → V) (l : List α) (a b : Nat) : ((l.map f).drop a).take b = ((l.drop a).take b).map f := by rw [List.map_take, List.map_drop]
theorem gap_nb {e sz : Nat} (f : α → V) (l : List α) (k : Nat) : Blk.row e ((l.map f).take 0 ++ (gap sz k ++ (l.map f).drop (0 + k))) [] = Blk.row e (gap sz k ++ (l.drop k).map f) [] := by simp
theorem gap_app {e sz : Nat} (L1 : List V) (f : α → V) (l : List α) (k : Nat) (L2 : List V) (h : L2 = L1 ++ (l.drop k).map f) : Blk.row e (L1 ++ ((gap sz k ++ (l.drop k).map f).drop k).take (l.drop k).length) [] = Blk.row e L2 [] := by
  rw [h, List.drop_left' (by simp [gap]), List.take_of_length_le (by simp)]
theorem vw_id {f : α → V} (h : ∀ x, (f x).vw = f x) (l : List α) : (l.map f).map V.vw = l.map f := by
  rw [List.map_map]; exact List.map_congr_left fun x _ => h x
theorem vw_map (f : α → V) (l : List α) : (l.map f).map V.vw = l.map fun x => (f x).vw := by rw [List.map_map]; rfl
theorem flat_map {f : α → V} (h : ∀ x, (f x).flatE = true) (l : List α) : (l.map f).all V.flatE = true := by
  rw [List.all_map]; exact List.all_eq_true.2 fun x _ => h x
theorem nv_map {f : α → V} (h : ∀ x, (f x).nv = true) (l : List α) : nvL (l.map f) = true := by
  rw [nvL_all, List.all_map]; exact List.all_eq_true.2 fun x _ => h x
theorem map_get {f : α → V} {l : List α} {i : Nat} {x : α} (h : l[i]? = some x) : (l.map f)[i]? = some (f x) := by rw [List.getElem?_map, h]; rfl
theorem map_lt {f : α → V} {l : List α} {i : Nat} {x : α} (h : l[i]? = some x) : i < (l.map f).length := by rw [List.length_map]; exact (List.getElem?_eq_some_iff.1 h).1
theorem get_lt {l : List α} {i : Int} {x : α} (h0 : decide (0 ≤ i) = true) (h : l[i.toNat]? = some x) : i < (l.length : Int) := by
  have := (List.getElem?_eq_some_iff.1 h).1
  have := of_decide_eq_true h0
  omega
theorem map_ltI {f : α → V} {l : List α} {i : Int} {x : α} (h0 : decide (0 ≤ i) = true) (h : l[i.toNat]? = some x) : i < ((l.map f).length : Int) := by rw [List.length_map]; exact get_lt h0 h
theorem rng_lt {L pre rest : List α} {x : α} (h : L = pre ++ x :: rest) : decide ((pre.length : Int) < (L.length : Int)) = true := by subst h; simp; omega
theorem rng_end {L pre : List α} (h : L = pre ++ []) : decide ((pre.length : Int) < (L.length : Int)) = false := by subst h; simp
theorem rng_nn (pre : List α) : (0 : Int) ≤ (pre.length : Int) := by omega
theorem rng_get {L pre rest : List α} {x : α} (f : α → V) (h : L = pre ++ x :: rest) : (L.map f)[((pre.length : Int)).toNat]? = some (f x) := by subst h; simp
theorem rng_next {L pre rest : List α} {x : α} (h : L = pre ++ x :: rest) (hc : capOk L.length = true) : V.sc (.int .i64 (i64 ((pre.length : Int) + 1))) = V.sc (.int .i64 ((pre ++ [x]).length : Int)) := by
  have := of_decide_eq_true hc
  subst h
  have e : i64 ((pre.length : Int) + 1) = ((pre ++ [x]).length : Int) := by
    unfold i64
    rw [IntKind.wrap_i64]
    simp at this ⊢
    omega
  rw [e]
theorem map_ltN {f : α → V} {l : List α} {i : Int} {x : α} (h0 : 0 ≤ i) (h : l[i.toNat]? = some x) : i < ((l.map f).length : Int) := by rw [List.length_map]; have := (List.getElem?_eq_some_iff.1 h).1; omega
theorem rng_ltI {L pre rest : List α} {x : α} (f : α → V) (h : L = pre ++ x :: rest) : (pre.length : Int) < ((L.map f).length : Int) := by subst h; simp; omega
theorem rngl {L pre rest : List α} {x : α} (f : α → V) (h : L = pre ++ x :: rest) : ((pre.length : Int)).toNat < (L.map f).length := by subst h; simp
theorem rng_step {L pre rest : List α} {x : α} (h : L = pre ++ x :: rest) : L = (pre ++ [x]) ++ rest := by rw [h]; simp
end
end Go.Proofs.YtdahdpnkppknfaaGreatDoorM
