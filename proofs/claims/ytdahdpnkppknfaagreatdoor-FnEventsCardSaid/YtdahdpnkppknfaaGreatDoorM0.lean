/- Values of a call, told by value: what slots hold, what the program's types say, what numbers and strings yield. No condition. -/
import Derived.Below
import Derived.Deep.Draws
import Derived.OwnWalk
import Derived.Laws.MakeOwn
import Derived.Maps.AppendAt
import Derived.Laws.OwnMore
import Derived.Deep.MidRow
import Derived.Orders
import Derived.WalkKit
import Derived.KernelRfl
namespace Go.Proofs.YtdahdpnkppknfaaGreatDoorM
set_option linter.unusedVariables false
set_option linter.unusedSimpArgs false
open Go.RowKit

/-- What a slot of a frame holds. -/
inductive V where
  /-- not known -/
  | un
  /-- a number, a truth value, a string: no address in it -/
  | sc (v : Value)
  /-- a slice of no cells (nil is one) -/
  | nl (e : Nat)
  /-- a slice by value (e: its elements' type; own: its rows are its own alone) -/
  | sl (own : Bool) (e : Nat) (els : List V)
  /-- the whole row n of the frame's own -/
  | ow (n : Nat)
  /-- a part of the row n (elements of sz cells): len of them, from lo on -/
  | sb (n sz lo len : Nat)
  /-- the address of the frame's variable n, off cells on -/
  | ptr (n off : Nat)
  /-- the address of a cell of row n: of element i (of sz cells), off cells on -/
  | ep (n sz i off : Nat)
  /-- the address of memory that stays as it is: the cells from there on -/
  | cp (cells : List V)
  /-- the map n of the frame's own -/
  | mp (n : Nat)
  | agg (cells : List V)
  | tup (vs : List V)
  | fn (g : Nat) (caps : List V)
  /-- the address of a variable that a call is given (e: its type) -/
  | bx (e : Nat) (cells : List V)

/-- A block of the frame's own: a variable, a row (its elements; those that are laid open, by their numbers), a map. -/
inductive Blk where
  | dead
  | box (e : Nat) (cells : List V)
  | row (e : Nat) (els : List V) (fo : List (Nat × V))
  /-- a map whose keys are three strings, all of them true -/
  | mset (ks : List (ByteArray × ByteArray × ByteArray))
/-- The state of a frame: its slots, its blocks, which of them it was given. -/
structure St where
  G : List V
  H : List Blk
  gv : List (Option Nat)
/-- How a piece of code is left. -/
inductive X where
  | go | out (id : Nat) | ret
def X.ends : X → Bool
  | .out _ => false
  | _ => true
def X.exit : X → Exit
  | .go => .normal
  | .out id => .exit id
  | .ret => .ret
/-- What is told from outside: which way a test goes; which element lies there; a call's result; how a loop is left; which operations of a region that draws come last; what numbers a row has; how append takes its source; what things are called now. -/
inductive It where
  | bit (b : Bool)
  | el (y : V)
  | fo (k : Nat)
  | call (ms : List Bool) (res : V) (outs : List V)
  | loop (x : X) (S : St)
  | join (n : Nat) (x : X) (S : St)
  | draw (ds : List Nat)
  | ints (ns : List Int)
  | cp (els : List V)
  | mv
  | nm (d : Nat) (v : V)
  | nb (n : Nat) (b : Blk)
  | mask (live : List Nat)
  | shut (n : Nat)
  | foc (n i : Nat) (y : V)
  | ren (s : List Nat)
  | own (d : Nat)
  | ownb (n j : Nat)
  | view (d : Nat)
  | wait (k : Nat)
/-- All of these hold. -/
def conj : List Prop → Prop
  | [] => True
  | [p] => p
  | p :: q :: l => p ∧ conj (q :: l)
theorem conj_cons {p : Prop} {l : List Prop} (h : conj (p :: l)) : p ∧ conj l := by
  cases l with
  | nil => exact ⟨h, trivial⟩
  | cons q l => exact h
theorem conj_append : ∀ {l l' : List Prop}, conj (l ++ l') → conj l ∧ conj l'
  | [], _, h => ⟨trivial, h⟩
  | p :: l, l', h => by
    have h := conj_cons (l := l ++ l') h
    have h2 := conj_append h.2
    refine ⟨?_, h2.2⟩
    cases l with
    | nil => exact h.1
    | cons q l => exact ⟨h.1, h2.1⟩
def V.cells : V → List V
  | .agg cs => cs
  | v => [v]
/-- A value without an address. -/
def flatB : Value → Bool
  | .bool _ | .int _ _ | .string _ | .pointer none | .slice none 0 0 | .nilFunc | .nilIface => true
  | _ => false
/-- The types whose rows may be made out of a string. -/
def byT (e : Nat) : Bool := true
def szOf (P : Program) (t : Nat) : Option Nat := (P.info? t).map (·.size)

/-! Facts of the program's types, asked by the kernel once each. -/
def vkind (P : Program) (t : Nat) : Option IntKind := match P.underlying t with | some (.int k) => some k | _ => none
def vbool (P : Program) (t : Nat) : Bool := match P.underlying t with | some .bool => true | _ => false
def vstr (P : Program) (t : Nat) : Bool := match P.underlying t with | some .string => true | _ => false
def velem (P : Program) (t : Nat) : Option Nat := match P.underlying t with | some (.slice e) => some e | _ => none
/-- Is a variable of this type read as a whole of cells? -/
def vagg (P : Program) (t : Nat) : Option Bool := match P.underlying t with | some (.struct _) => some true | some (.array _ _) => some true | some _ => some false | none => none
/-- The field's first cell, of how many. -/
def voff (P : Program) (s f : Nat) : Option (Nat × Nat) :=
  match P.underlying s with
  | some (.struct fs) => match fs[f]? with
    | some d => match szOf P d.type with
      | some (n + 1) => some (d.offset, n + 1)
      | _ => none
    | none => none
  | _ => none
/-- The type of the field. -/
def vftype (P : Program) (s f : Nat) : Option Nat := match P.underlying s with | some (.struct fs) => (fs[f]?).map (·.type) | _ => none

def intBin (op : BinOp) (k : IntKind) (a b : Int) : Option (Value × List Prop) :=
  match op with
  | .add => some (.int k (k.wrap (a + b)), [])
  | .sub => some (.int k (k.wrap (a - b)), [])
  | .mul => some (.int k (k.wrap (a * b)), [])
  | .quo => some (.int k (k.wrap (a.tdiv b)), [b ≠ 0])
  | .rem => some (.int k (a.tmod b), [b ≠ 0])
  | .and => some (.int k (k.wrap ((BitVec.ofInt k.bits a &&& BitVec.ofInt k.bits b).toNat)), [])
  | .or => some (.int k (k.wrap ((BitVec.ofInt k.bits a ||| BitVec.ofInt k.bits b).toNat)), [])
  | .xor => some (.int k (k.wrap ((BitVec.ofInt k.bits a ^^^ BitVec.ofInt k.bits b).toNat)), [])
  | .eql => some (.bool (a == b), [])
  | .neq => some (.bool (a != b), [])
  | .lss => some (.bool (decide (a < b)), [])
  | .leq => some (.bool (decide (a ≤ b)), [])
  | .gtr => some (.bool (decide (b < a)), [])
  | .geq => some (.bool (decide (b ≤ a)), [])
  | _ => none
def strBin (op : BinOp) (a b : ByteArray) : Option (Value × List Prop) :=
  match op with
  | .add => some (.string (a ++ b), [a.size + b.size ≤ 9223372036854775807])
  | .eql => some (.bool (a == b), [])
  | .neq => some (.bool (!(a == b)), [])
  | .lss => some (.bool (Op.bytesLess a.toList b.toList), [])
  | .leq => some (.bool (Op.bytesLess a.toList b.toList || (a == b)), [])
  | .gtr => some (.bool (!(Op.bytesLess a.toList b.toList || (a == b))), [])
  | .geq => some (.bool (!(Op.bytesLess a.toList b.toList)), [])
  | _ => none
def vbin (P : Program) (op : BinOp) (t : Nat) : Value → Value → Option (Value × List Prop)
  | .int k a, .int k' b =>
    match op with
    | .shl => some (.int k (k.wrap (a * 2 ^ min b.toNat k.bits)), [¬ b < 0])
    | .shr => some (.int k (a.fdiv (2 ^ min b.toNat k.bits)), [¬ b < 0])
    | _ => if k = k' then intBin op k a b else none
  | .string a, .string b => strBin op a b
  | .bool a, .bool b => if vbool P t = true then (match op with | .eql => some (.bool (a == b), []) | .neq => some (.bool (!(a == b)), []) | _ => none) else none
  | _, _ => none
theorem vbin_flat {P : Program} {op : BinOp} {t : Nat} {a b v : Value} {p : List Prop} (h : vbin P op t a b = some (v, p)) : flatB v = true := by
  unfold vbin at h
  split at h
  · split at h
    · simp at h; obtain ⟨rfl, _⟩ := h; rfl
    · simp at h; obtain ⟨rfl, _⟩ := h; rfl
    · split at h
      · unfold intBin at h
        split at h <;> simp at h <;> (obtain ⟨rfl, _⟩ := h; rfl)
      · simp at h
  · unfold strBin at h
    split at h <;> simp at h <;> (obtain ⟨rfl, _⟩ := h; rfl)
  · split at h
    · split at h <;> simp at h <;> (obtain ⟨rfl, _⟩ := h; rfl)
    · simp at h
  · simp at h
theorem run_eqGuard_plain {P : Program} (w : World) (op : BinOp) (t : Nat) (x y : Operand) (a b : Value) (h1 : ∀ cs, a ≠ .agg cs) (h2 : a ≠ .nilIface) : (eqGuard op t x y a b).run P w = .ok () w := by
  cases op <;> first | (simp [eqGuard]; done) | (cases a <;> first | exact absurd rfl (h1 _) | exact absurd rfl h2 | (simp [eqGuard]; done))
theorem run_vbin {P : Program} {op : BinOp} {t : Nat} {a b v : Value} {p : List Prop} (w : World) (x y : Operand) (h : vbin P op t a b = some (v, p)) (hp : conj p) :
    (do eqGuard op t x y a b; binOp op t a b : Sem Value).run P w = .ok v w := by
  have hg : (eqGuard op t x y a b).run P w = .ok () w := by
    refine run_eqGuard_plain w op t x y a b (fun cs e => ?_) (fun e => ?_) <;> (subst e; simp [vbin] at h)
  rw [Sem.run_bind, hg, Result.andThen_ok]
  unfold vbin at h
  split at h
  · rename_i k i k' j
    split at h
    · simp only [Option.some.injEq, Prod.mk.injEq] at h
      obtain ⟨rfl, rfl⟩ := h
      simp [binOp, Op.shift, show ¬ _ from hp]
    · simp only [Option.some.injEq, Prod.mk.injEq] at h
      obtain ⟨rfl, rfl⟩ := h
      simp [binOp, Op.shift, show ¬ _ from hp]
    · split at h
      · rename_i hk
        subst hk
        unfold intBin at h
        split at h <;> simp only [Option.some.injEq, Prod.mk.injEq, reduceCtorEq] at h <;> (obtain ⟨rfl, rfl⟩ := h; simp_all [conj, binOp, Op.intArith, Op.intDiv, Op.intBits, Op.intCmp])
      · simp at h
  · rename_i s s'
    unfold strBin at h
    split at h <;> simp only [Option.some.injEq, Prod.mk.injEq, reduceCtorEq] at h <;> (obtain ⟨rfl, rfl⟩ := h; simp [binOp, Op.stringOp, beq_toListBytes])
    exact (Int.ofNat_le.2 hp)
  · split at h
    · rename_i hb
      have hu : P.underlying t = some .bool := by
        unfold vbool at hb
        split at hb
        · assumption
        · simp at hb
      have he : ∀ a b : Bool, (Op.equal t (.bool a) (.bool b)).run P w = .ok (a == b) w := fun a b => by
        show (Op.equalIn (9999 + 1) t (.bool a) (.bool b)).run P w = _
        unfold Op.equalIn
        simp [run_underlying hu]
      split at h <;> simp only [Option.some.injEq, Prod.mk.injEq, reduceCtorEq] at h <;> obtain ⟨rfl, rfl⟩ := h <;> simp only [binOp, Sem.run_bind, he, Result.andThen_ok, Sem.run_pure]
    · simp at h
  · simp at h

section
variable {P : Program} {B : Nat → Nat} {R : Nat → List Nat → Value} {I : Nat → Prop} {w : World}
theorem velem_spec {t e : Nat} (h : velem P t = some e) : P.underlying t = some (.slice e) := by
  unfold velem at h
  split at h
  · obtain rfl := Option.some.inj h; assumption
  · simp at h
theorem vkind_spec {t : Nat} {k : IntKind} (h : vkind P t = some k) : P.underlying t = some (.int k) := by
  unfold vkind at h
  split at h
  · obtain rfl := Option.some.inj h; assumption
  · simp at h
theorem vstr_spec {t : Nat} (h : vstr P t = true) : P.underlying t = some .string := by
  unfold vstr at h
  split at h
  · assumption
  · simp at h
theorem szOf_spec {t n : Nat} (h : szOf P t = some n) : ∃ i, P.info? t = some i ∧ i.size = n := by
  unfold szOf at h
  cases hi : P.info? t with
  | none => simp [hi] at h
  | some i => exact ⟨i, rfl, by simpa [hi] using h⟩
theorem run_isAgg {t : Nat} {b : Bool} (h : vagg P t = some b) : (isAgg t).run P w = .ok b w := by
  unfold vagg at h
  unfold isAgg
  cases hu : P.underlying t with
  | none => simp [hu] at h
  | some d => cases d <;> simp [hu] at h <;> subst h <;> simp [run_underlying hu]
theorem run_sizeOf {t n : Nat} (h : szOf P t = some n) : (sizeOf t).run P w = .ok n w := by
  obtain ⟨i, hi, rfl⟩ := szOf_spec h
  simp [sizeOf, typeInfo, hi]
theorem addr_add (b o j : Nat) : (⟨b, o, none⟩ : Addr).add j = ⟨b, o + j, none⟩ := Addr.add_mid b o j
theorem addr_add' (ad : Addr) (h : ad.spot = none) (j : Nat) : ad.add j = ⟨ad.block, ad.off + j, none⟩ := by
  obtain ⟨b, o, s⟩ := ad
  simp only at h
  subst h
  exact addr_add b o j
/-- A field's place. -/
theorem run_fieldAt {s f off n : Nat} {ad : Addr} (h : voff P s f = some (off, n)) : (Instr.fieldAt s (.pointer (some ad)) f).run P w = .ok (.pointer (some (ad.add off))) w := by
  unfold voff at h
  split at h
  · rename_i fs hu
    split at h
    · rename_i d hd
      split at h
      · rename_i m hm
        simp only [Option.some.injEq, Prod.mk.injEq] at h
        obtain ⟨rfl, rfl⟩ := h
        have hz : (sizeOf d.type).run P w = .ok (m + 1) w := run_sizeOf hm
        simp [Instr.fieldAt, run_underlying hu, hd, Instr.sureAddr, fieldPlace, hz]
      · simp at h
    · simp at h
  · simp at h
/-- An element's place. -/
theorem run_indexAt {t e sz : Nat} {ad : Addr} {len cap : Nat} {k : IntKind} {i : Int} (h : velem P t = some e) (hs : szOf P e = some sz) (h0 : 0 ≤ i) (h1 : i < len) :
    (Instr.indexAt t (.slice (some ad) len cap) (.int k i)).run P w = .ok (.pointer (some (ad.add (i.toNat * sz)))) w := by
  have hz : (sizeOf e).run P w = .ok sz w := run_sizeOf hs
  simp [Instr.indexAt, run_underlying (velem_spec h), asIntOf, h0, h1, hz]
end
end Go.Proofs.YtdahdpnkppknfaaGreatDoorM
