/- The state of a frame, and what keeps it. No condition. -/
import Derived.Test.YtdahdpnkppknfaaGreatDoorM1
namespace Go.Proofs.YtdahdpnkppknfaaGreatDoorM
set_option linter.unusedVariables false
set_option linter.unusedSimpArgs false
open Go.RowKit

def ev (G : List V) : Operand → V
  | .tmp t => match G[t]? with
    | some v => v
    | none => .un
  | .const v => if flatB v then .sc v else .un
  | .func f => .fn f []
  | .global _ => .un
def putV (G : List V) : Option Nat → V → List V
  | some d, v => G.set d v
  | none, _ => G
/-- The element that is laid open there. -/
def look (fo : List (Nat × V)) (i : Nat) : Option V := (fo.find? fun p => p.1 == i).map (·.2)
/-- Package variables that are read: the block where each lies, what is known of its cells. -/
def globs : List (Nat × (Array Value → Prop)) := [(3, fun cs => cs = (([1, 10, 100, 1000, 10000, 100000, 1000000, 10000000, 100000000, 1000000000, 10000000000, 100000000000, 1000000000000, 10000000000000, 100000000000000, 1000000000000000, 10000000000000000, 100000000000000000, 1000000000000000000, 10000000000000000000] : List Int).map fun z => Value.int .u64 z).toArray), (0, fun cs => ∃ z : Int, cs[0]? = some (Value.int .i64 z)), (1, fun cs => ∃ ev : Value, cs[0]? = some ev ∧ (ev = .nilIface ∨ ∃ te pe, ev = .iface te pe)), (2, fun cs => ∃ ev : Value, cs[0]? = some ev ∧ (ev = .nilIface ∨ ∃ te pe, ev = .iface te pe))]
def GB (b : Nat) : Prop := ∃ p ∈ globs, p.1 = b
/-- They lie there. -/
def Glob (w : World) : Prop := ∀ p ∈ globs, ∃ cs t z, w.heap[p.1]? = some (.cells cs t z) ∧ p.2 cs
theorem Glob.lt {w : World} (h : Glob w) {b : Nat} (hb : GB b) : b < w.heap.size := by
  obtain ⟨p, hp, rfl⟩ := hb
  obtain ⟨cs, t, z, e, _⟩ := h p hp
  exact (Array.getElem?_eq_some_iff.1 e).1
theorem Glob.step {w w' : World} (h : Glob w) (hs : ∀ b, GB b → w'.heap[b]? = w.heap[b]?) : Glob w' := fun p hp => by
  rw [hs p.1 ⟨p, hp, rfl⟩]
  exact h p hp
/-- What a call may count on: they lie there, and none of them is given to it. -/
def Gl (w : World) (fa : List Nat) : Prop := Glob w ∧ ∀ b, GB b → b ∉ fa
/-- A call: what it must leave alone, how the world was, the rows and variables that it was given. -/
structure Ctx where
  O : Nat → Prop
  w0 : World
  A : Nat → Value
/-- The world goes on; what O names stays. -/
structure Kp (O : Nat → Prop) (w w' : World) : Prop where
  os : w'.os = w.os
  tape : w'.tape = w.tape
  output : w'.output = w.output
  size : w.heap.size ≤ w'.heap.size
  block : ∀ k, O k → w'.heap[k]? = w.heap[k]?
theorem Kp.refl (O : Nat → Prop) (w : World) : Kp O w w := ⟨rfl, rfl, rfl, Nat.le_refl _, fun _ _ => rfl⟩
theorem Kp.trans {O : Nat → Prop} {a b c : World} (h : Kp O a b) (k : Kp O b c) : Kp O a c :=
  ⟨k.os.trans h.os, k.tape.trans h.tape, k.output.trans h.output, Nat.le_trans h.size k.size, fun i hi => (k.block i hi).trans (h.block i hi)⟩
theorem Kp.mono {O O' : Nat → Prop} {a b : World} (h : Kp O a b) (ho : ∀ k, O' k → O k) : Kp O' a b := ⟨h.os, h.tape, h.output, h.size, fun i hi => h.block i (ho i hi)⟩
/-- What lay there lies there as it was. -/
def Same (w w2 : World) : Prop := ∀ b, b < w.heap.size → w2.heap[b]? = w.heap[b]?
def Grow (w w2 : World) : Prop := w.heap.size ≤ w2.heap.size ∧ Same w w2
theorem Same.refl (w : World) : Same w w := fun _ _ => rfl
theorem Grow.refl (w : World) : Grow w w := ⟨Nat.le_refl _, .refl w⟩
theorem Same.grow {w0 w w2 : World} (h : Grow w0 w) (k : Grow w w2) : Grow w0 w2 := ⟨Nat.le_trans h.1 k.1, fun b hb => (k.2 b (Nat.lt_of_lt_of_le hb h.1)).trans (h.2 b hb)⟩
theorem Same.cell {w w2 : World} (h : Same w w2) {ad : Addr} {u : Value} (hc : w.cell? ad = some u) : w2.cell? ad = some u := by
  refine (World.cell?_of_block (w := w) (h _ ?_)).trans hc
  unfold World.cell? at hc
  rcases Nat.lt_or_ge ad.block w.heap.size with hl | hl
  · exact hl
  · rw [Array.getElem?_eq_none hl] at hc
    simp at hc
theorem Grow.alloc (w : World) (o : Obj) : Grow w (w.alloc o) := ⟨by simp, fun b hb => Below.heap_alloc w o b hb⟩
theorem kp_new {C : Ctx} {w : World} (h : ∀ b, C.O b → b < w.heap.size) (o : Obj) : Kp C.O w (w.alloc o) := ⟨rfl, rfl, rfl, by simp, fun k hk => Below.heap_alloc w o k (h k hk)⟩
theorem kp_row {C : Ctx} {w : World} {g : Nat} (h : ¬ C.O g) (cs : Array Value) : Kp C.O w (w.setRow g cs) := ⟨rfl, rfl, rfl, by simp, fun k hk => setRow_other w g k cs (fun e => h (by rw [← e]; exact hk))⟩
theorem kp_of_grown {C : Ctx} {w w' : World} {row : Option Nat} (hg : w.grownBy w' row) (hs : ∀ b, C.O b → b < w.heap.size) (hr : ∀ k, row = some k → ¬ C.O k) : Kp C.O w w' :=
  ⟨hg.os, hg.tape, hg.output, hg.size, fun k hk => hg.block k (hs k hk) (fun e => hr k e.symm hk)⟩

/-- An element of a row of the frame's own, laid open or not. -/
def ElB (P : Program) (I : Nat → Prop) (w : World) (R : Nat → Value) (N : Nat) (sz : Nat) (fo : List (Nat × V)) (i : Nat) (x : V) (us : List Value) (f : List Nat) : Prop :=
  match look fo i with
  | none => ElR P I w R N false sz x us f
  | some y => ElR P I w R N true sz y us f
/-- A map's entry. -/
def mkey (k : ByteArray × ByteArray × ByteArray) : Value := .agg #[.string k.1, .string k.2.1, .string k.2.2]
/-- What block n is, and the blocks of memory that are its own. -/
def BlkOk (P : Program) (I : Nat → Prop) (w : World) (R : Nat → Value) (N : Nat) (n : Nat) : Blk → List Nat → Prop
  | .dead, f => f = []
  | .box e cs, f => ∃ (g : Nat) (us : Array Value), R n = .pointer (some ⟨g, 0, none⟩) ∧ w.heap[g]? = some (.cells us e (0, 0)) ∧ RelL P I w R N true cs us.toList [] ∧ (∀ x ∈ us.toList, x.oneCell' = true) ∧ f = [g]
  | .mset ks, f => ∃ (g : Nat) (es : Array MapEntry) (cl : Nat), R n = .map (some g) ∧ w.heap[g]? = some (.map es cl) ∧ (es.toList.map fun e => (e.key, e.val)) = (ks.map fun k => (mkey k, Value.bool true)) ∧ f = [g]
  | .row e els fo, f => ∃ (sz : Nat) (uss : List (List Value)) (ffs : List (List Nat)), szOf P e = some sz ∧ 0 < sz ∧ Own w e sz (R n) els.length uss.flatten ∧ uss.length = els.length ∧ ffs.length = els.length ∧
      (∀ (i : Nat) (x : V) (us : List Value) (f : List Nat), els[i]? = some x → uss[i]? = some us → ffs[i]? = some f → ElB P I w R N sz fo i x us f) ∧ f = fbOf (R n) ++ ffs.flatten
structure Inv (P : Program) (I : Nat → Prop) (C : Ctx) (R : Nat → Value) (S : St) (a : Act) (F : Nat → List Nat) (w : World) : Prop where
  len : S.G.length = a.tmps.size
  slot : ∀ d v, S.G[d]? = some v → Rel P I w R S.H.length true v (a.tmps.getD d undef) []
  blk : ∀ n b, S.H[n]? = some b → BlkOk P I w R S.H.length n b (F n)
  nodup : ∀ n, (F n).Nodup
  disj : ∀ n m b, b ∈ F n → b ∈ F m → n = m
  fresh : ∀ n b, b ∈ F n → ¬ C.O b ∧ b < w.heap.size
  iin : ∀ b, I b → C.O b
  olt : ∀ b, C.O b → b < w.heap.size
  below : Kp C.O C.w0 w
  orig : ∀ j n, S.gv[j]? = some (some n) → n < S.H.length ∧ R n = C.A j
  defers : a.defers = []
  gl : Glob C.w0 ∧ ∀ b, GB b → C.O b
def InvE (P : Program) (I : Nat → Prop) (C : Ctx) (S : St) (a : Act) (w : World) : Prop := ∃ R F, Inv P I C R S a F w
def upd (F : Nat → List Nat) (n : Nat) (f : List Nat) : Nat → List Nat := fun m => if m = n then f else F m

section
variable {P : Program} {R R' : Nat → Value} {N N' : Nat} {I : Nat → Prop} {w w' : World} {C : Ctx} {S S' : St} {a : Act} {F F' : Nat → List Nat} {n : Nat} {b : Blk} {f : List Nat}
theorem InvE.of (h : Inv P I C R S a F w) : InvE P I C S a w := ⟨R, F, h⟩
theorem upd_self (F : Nat → List Nat) (n : Nat) (f : List Nat) : upd F n f n = f := by simp [upd]
theorem upd_ne (F : Nat → List Nat) {n m : Nat} (f : List Nat) (h : m ≠ n) : upd F n f m = F m := by simp [upd, h]
theorem upd_nodup (h : ∀ n, (F n).Nodup) (hf : f.Nodup) : ∀ m, (upd F n f m).Nodup := fun m => by
  unfold upd; split
  · exact hf
  · exact h m
theorem upd_disj (h : ∀ n m b, b ∈ F n → b ∈ F m → n = m) (hf : ∀ m b, m ≠ n → b ∈ f → b ∉ F m) : ∀ k m b, b ∈ upd F n f k → b ∈ upd F n f m → k = m := fun k m b hk hm => by
  unfold upd at hk hm
  split at hk <;> split at hm
  · omega
  · exact absurd hm (hf m b (by assumption) hk)
  · exact absurd hk (hf k b (by assumption) hm)
  · exact h k m b hk hm
theorem ElB.step {sz i : Nat} {fo : List (Nat × V)} {x : V} {us : List Value} (h : ElB P I w R N sz fo i x us f) (hI : ∀ k, I k → w'.heap[k]? = w.heap[k]?) (hf : ∀ k, k ∈ f → w'.heap[k]? = w.heap[k]?) : ElB P I w' R N sz fo i x us f := by
  unfold ElB at h ⊢
  split
  · rename_i h0; rw [h0] at h; exact ElR.step h hI hf
  · rename_i y h0; rw [h0] at h; exact ElR.step h hI hf
theorem ElB.env {sz i : Nat} {fo : List (Nat × V)} {x : V} {us : List Value} (h : ElB P I w R N sz fo i x us f) (hN : N ≤ N') (hR : ∀ n, n < N → R' n = R n) : ElB P I w R' N' sz fo i x us f := by
  unfold ElB at h ⊢
  split
  · rename_i h0; rw [h0] at h; exact ElR.shut h
  · rename_i y h0; rw [h0] at h; exact ElR.env h hN hR
theorem BlkOk.step (h : BlkOk P I w R N n b f) (hI : ∀ k, I k → w'.heap[k]? = w.heap[k]?) (hf : ∀ k, k ∈ f → w'.heap[k]? = w.heap[k]?) : BlkOk P I w' R N n b f := by
  cases b with
  | dead => exact h
  | box e cs =>
    obtain ⟨g, us, h1, h2, h3, h4, rfl⟩ := h
    exact ⟨g, us, h1, (hf g (by simp)).trans h2, RelL.step h3 hI (fun k hk => by simp at hk), h4, rfl⟩
  | mset ks =>
    obtain ⟨g, es, cl, h1, h2, h3, rfl⟩ := h
    exact ⟨g, es, cl, h1, (hf g (by simp)).trans h2, h3, rfl⟩
  | row e els fo =>
    obtain ⟨sz, uss, ffs, h1, h2, h3, h4, h5, h6, rfl⟩ := h
    exact ⟨sz, uss, ffs, h1, h2, h3.step (fun k hk => hf k (List.mem_append_left _ hk)), h4, h5, fun i x us g hx hus hg => (h6 i x us g hx hus hg).step hI (fun k hk => hf k (List.mem_append_right _ (flatten_mem hg hk))), rfl⟩
theorem BlkOk.env (h : BlkOk P I w R N n b f) (hN : N ≤ N') (hR : ∀ n, n < N → R' n = R n) (hn : n < N) : BlkOk P I w R' N' n b f := by
  cases b with
  | dead => exact h
  | box e cs =>
    obtain ⟨g, us, h1, h2, h3, h4, rfl⟩ := h
    exact ⟨g, us, by rw [hR n hn]; exact h1, h2, RelL.env h3 hN hR, h4, rfl⟩
  | mset ks =>
    obtain ⟨g, es, cl, h1, h2, h3, rfl⟩ := h
    exact ⟨g, es, cl, by rw [hR n hn]; exact h1, h2, h3, rfl⟩
  | row e els fo =>
    obtain ⟨sz, uss, ffs, h1, h2, h3, h4, h5, h6, rfl⟩ := h
    exact ⟨sz, uss, ffs, h1, h2, by rw [hR n hn]; exact h3, h4, h5, fun i x us g hx hus hg => (h6 i x us g hx hus hg).env hN hR, by rw [hR n hn]⟩
theorem BlkOk.lt (h : BlkOk P I w R N n b f) : ∀ k, k ∈ f → k < w.heap.size := by
  cases b with
  | dead => intro k hk; have h : f = [] := h; subst h; simp at hk
  | box e cs =>
    obtain ⟨g, us, h1, h2, h3, h4, rfl⟩ := h
    intro k hk; simp at hk; subst hk; exact (Array.getElem?_eq_some_iff.1 h2).1
  | mset ks =>
    obtain ⟨g, es, cl, h1, h2, h3, rfl⟩ := h
    intro k hk; simp at hk; subst hk; exact (Array.getElem?_eq_some_iff.1 h2).1
  | row e els fo =>
    obtain ⟨sz, uss, ffs, h1, h2, h3, h4, h5, h6, rfl⟩ := h
    intro k hk
    rcases List.mem_append.1 hk with hk | hk
    · exact h3.lt k hk
    · obtain ⟨g, hg, hk⟩ := List.mem_flatten.1 hk
      obtain ⟨i, hi, rfl⟩ := List.mem_iff_getElem.1 hg
      have := h6 i _ _ _ (List.getElem?_eq_getElem (by omega)) (List.getElem?_eq_getElem (by omega)) (List.getElem?_eq_getElem hi)
      have : ∃ t y, ElR P I w R N t sz y (uss[i]'(by omega)) ffs[i] := by
        unfold ElB at this
        split at this
        · exact ⟨_, _, this⟩
        · exact ⟨_, _, this⟩
      obtain ⟨t, y, _, _, _, fs, e1, e2, e3, e4⟩ := this
      rw [e3] at hk
      obtain ⟨q, hq, hk⟩ := List.mem_flatten.1 hk
      obtain ⟨j, hj, rfl⟩ := List.mem_iff_getElem.1 hq
      exact (e4 j _ _ _ (List.getElem?_eq_getElem (by omega)) (List.getElem?_eq_getElem (by omega)) (List.getElem?_eq_getElem hj)).lt k hk
theorem Inv.ilt (h : Inv P I C R S a F w) {b : Nat} (hb : I b) : b < w.heap.size := h.olt b (h.iin b hb)
/-- What an operand tells is so. -/
theorem Inv.ev (h : Inv P I C R S a F w) (x : Operand) : Rel P I w R S.H.length true (ev S.G x) (a.eval x) [] := by
  cases x with
  | tmp t =>
    simp only [Go.Proofs.YtdahdpnkppknfaaGreatDoorM.ev, Act.eval]
    cases hg : S.G[t]? with
    | none => exact .leaf _ _ _ rfl (.un _)
    | some v => exact h.slot t v hg
  | const v =>
    simp only [Go.Proofs.YtdahdpnkppknfaaGreatDoorM.ev, Act.eval]
    split
    · exact .leaf _ _ _ rfl (.sc _ (by assumption))
    · exact .leaf _ _ _ rfl (.un _)
  | func f => exact Rel.fn true f [] [] rfl rfl (fun j c u h => by simp at h)
  | global g => exact .leaf _ _ _ rfl (.un _)
/-- The world goes on, the frame's blocks as they were. -/
theorem Inv.world (h : Inv P I C R S a F w) (hb : Kp C.O w w') (hF : ∀ n b, b ∈ F n → w'.heap[b]? = w.heap[b]?) : Inv P I C R S a F w' :=
  ⟨h.len, fun d v hd => (h.slot d v hd).step (fun k hk => hb.block k (h.iin k hk)) (fun k hk => by simp at hk), fun n b hn => (h.blk n b hn).step (fun k hk => hb.block k (h.iin k hk)) (fun k hk => hF n k hk), h.nodup, h.disj,
    fun n b hb' => ⟨(h.fresh n b hb').1, Nat.lt_of_lt_of_le (h.fresh n b hb').2 hb.size⟩, h.iin, fun b ho => Nat.lt_of_lt_of_le (h.olt b ho) hb.size, h.below.trans hb, h.orig, h.defers, h.gl⟩
theorem getD_put (a : Act) (dst : Option Nat) (u : Value) (d : Nat) (hd : d < a.tmps.size) : (a.put dst u).tmps.getD d undef = if dst = some d then u else a.tmps.getD d undef := by
  cases dst with
  | none => simp [Act.put]
  | some x =>
    simp only [Act.put, Option.some.injEq, Array.getD_eq_getD_getElem?, Array.getElem?_setIfInBounds]
    by_cases e : x = d
    · subst e; simp [hd]
    · simp [e]
theorem size_put (a : Act) (dst : Option Nat) (u : Value) : (a.put dst u).tmps.size = a.tmps.size := by cases dst <;> simp [Act.put]
theorem defers_put (a : Act) (dst : Option Nat) (u : Value) : (a.put dst u).defers = a.defers := by cases dst <;> simp [Act.put]
theorem length_putV (G : List V) (dst : Option Nat) (v : V) : (putV G dst v).length = G.length := by cases dst <;> simp [putV]
theorem get_putV (G : List V) (dst : Option Nat) (v : V) (d : Nat) (hd : d < G.length) : (putV G dst v)[d]? = if dst = some d then some v else G[d]? := by
  cases dst with
  | none => simp [putV]
  | some x =>
    simp only [putV, Option.some.injEq, List.getElem?_set]
    split
    · subst x; simp [hd]
    · rfl
/-- A value that holds nothing of its own goes into a slot. -/
theorem Inv.put (h : Inv P I C R S a F w) (dst : Option Nat) {v : V} {u : Value} (hv : Rel P I w R S.H.length true v u []) : Inv P I C R { S with G := putV S.G dst v } (a.put dst u) F w := by
  refine ⟨by rw [length_putV, size_put]; exact h.len, fun d x hd => ?_, h.blk, h.nodup, h.disj, h.fresh, h.iin, h.olt, h.below, h.orig, by rw [defers_put]; exact h.defers, h.gl⟩
  have hlt : d < S.G.length := by rw [← length_putV S.G dst v]; exact (List.getElem?_eq_some_iff.1 hd).1
  dsimp only at hd
  rw [get_putV _ _ _ _ hlt] at hd
  rw [getD_put _ _ _ _ (by rw [← h.len]; exact hlt)]
  split at hd
  · rename_i e
    rw [if_pos e]
    obtain rfl := Option.some.inj hd
    exact hv
  · rename_i e
    rw [if_neg e]
    exact h.slot d x hd
/-- A block is let go. -/
theorem Inv.kill (h : Inv P I C R S a F w) (n : Nat) : Inv P I C R { S with H := S.H.set n .dead } a (upd F n []) w := by
  refine ⟨h.len, by simpa using h.slot, fun m b hm => ?_, upd_nodup h.nodup List.nodup_nil, upd_disj h.disj (fun m b _ hb => by simp at hb), fun m b hb => ?_, h.iin, h.olt, h.below, by simpa using h.orig, h.defers, h.gl⟩
  · simp only [List.getElem?_set] at hm
    simp only [List.length_set]
    by_cases e : n = m
    · subst e
      rw [upd_self]
      simp only [if_true] at hm
      split at hm
      · obtain rfl := Option.some.inj hm; rfl
      · simp at hm
    · simp only [e, if_false] at hm
      rw [upd_ne _ _ (fun z => e z.symm)]
      exact h.blk m b hm
  · unfold upd at hb
    split at hb
    · simp at hb
    · exact h.fresh m b hb
/-- A block turns. -/
theorem Inv.turn (h : Inv P I C R S a F w) (n : Nat) {b' : Blk} {f' : List Nat} (hb : Kp C.O w w') (hw : ∀ m b, m ≠ n → b ∈ F m → w'.heap[b]? = w.heap[b]?) (hk : BlkOk P I w' R S.H.length n b' f') (hn : f'.Nodup)
    (hf : ∀ x, x ∈ f' → ¬ C.O x ∧ ∀ m, m ≠ n → x ∉ F m) : Inv P I C R { S with H := S.H.set n b' } a (upd F n f') w' := by
  have hI : ∀ k, I k → w'.heap[k]? = w.heap[k]? := fun k hk => hb.block k (h.iin k hk)
  refine ⟨h.len, fun d v hd => by simpa using (h.slot d v hd).step hI (fun k hk => by simp at hk), fun m c hm => ?_, upd_nodup h.nodup hn, upd_disj h.disj (fun m b hm hb => (hf b hb).2 m hm), fun m b hb' => ?_, h.iin, fun b ho => Nat.lt_of_lt_of_le (h.olt b ho) hb.size, h.below.trans hb, by simpa using h.orig, h.defers, h.gl⟩
  · simp only [List.getElem?_set] at hm
    simp only [List.length_set]
    by_cases e : n = m
    · subst e
      rw [upd_self]
      simp only [if_true] at hm
      split at hm
      · obtain rfl := Option.some.inj hm; exact hk
      · simp at hm
    · simp only [e, if_false] at hm
      rw [upd_ne _ _ (fun z => e z.symm)]
      exact (h.blk m c hm).step hI (fun k hk => hw m k (fun z => e z.symm) hk)
  · unfold upd at hb'
    split at hb'
    · exact ⟨(hf b hb').1, hk.lt b hb'⟩
    · exact ⟨(h.fresh m b hb').1, Nat.lt_of_lt_of_le (h.fresh m b hb').2 hb.size⟩
def updR (R : Nat → Value) (n : Nat) (v : Value) : Nat → Value := fun m => if m = n then v else R m
theorem updR_self (R : Nat → Value) (n : Nat) (v : Value) : updR R n v n = v := by simp [updR]
theorem updR_lt (R : Nat → Value) (n : Nat) (v : Value) : ∀ m, m < n → updR R n v m = R m := fun m h => by simp [updR, Nat.ne_of_lt h]
/-- A block comes. -/
theorem Inv.new (h : Inv P I C R S a F w) {b : Blk} {r : Value} {f : List Nat} (hb : Kp C.O w w') (hw : ∀ m b, b ∈ F m → w'.heap[b]? = w.heap[b]?)
    (hk : BlkOk P I w' (updR R S.H.length r) (S.H.length + 1) S.H.length b f) (hn : f.Nodup) (hf : ∀ x, x ∈ f → ¬ C.O x ∧ ∀ m, m ≠ S.H.length → x ∉ F m) :
    Inv P I C (updR R S.H.length r) { S with H := S.H ++ [b] } a (upd F S.H.length f) w' := by
  have hI : ∀ k, I k → w'.heap[k]? = w.heap[k]? := fun k hk => hb.block k (h.iin k hk)
  have hl : (S.H ++ [b]).length = S.H.length + 1 := by simp
  refine ⟨h.len, fun d v hd => ?_, fun m c hm => ?_, upd_nodup h.nodup hn, upd_disj h.disj (fun m b hm hb => (hf b hb).2 m hm), fun m b hb' => ?_, h.iin, fun b ho => Nat.lt_of_lt_of_le (h.olt b ho) hb.size, h.below.trans hb, fun j m hj => ?_, h.defers, h.gl⟩
  · rw [hl]
    exact ((h.slot d v hd).step hI (fun k hk => by simp at hk)).env (Nat.le_succ _) (updR_lt _ _ _)
  · dsimp only at hm
    rw [hl]
    rcases Nat.lt_trichotomy m S.H.length with hlt | rfl | hgt
    · rw [List.getElem?_append_left hlt] at hm
      rw [upd_ne _ _ (by omega)]
      exact ((h.blk m c hm).step hI (fun k hk => hw m k hk)).env (Nat.le_succ _) (updR_lt _ _ _) hlt
    · rw [List.getElem?_append_right (Nat.le_refl _)] at hm
      simp only [Nat.sub_self, List.getElem?_cons_zero, Option.some.injEq] at hm
      subst hm
      rw [upd_self]
      exact hk
    · rw [List.getElem?_eq_none (by simp; omega)] at hm
      simp at hm
  · unfold upd at hb'
    split at hb'
    · exact ⟨(hf b hb').1, hk.lt b hb'⟩
    · exact ⟨(h.fresh m b hb').1, Nat.lt_of_lt_of_le (h.fresh m b hb').2 hb.size⟩
  · obtain ⟨h1, h2⟩ := h.orig j m hj
    exact ⟨by dsimp only; rw [hl]; omega, by rw [updR_lt _ _ _ m h1]; exact h2⟩
/-- A state that tells less of the slots. -/
theorem Inv.slots (h : Inv P I C R S a F w) {G' : List V} (hl : G'.length = S.G.length) (hg : ∀ (d : Nat) (v : V), G'[d]? = some v → v = .un ∨ S.G[d]? = some v) : Inv P I C R { S with G := G' } a F w :=
  ⟨hl.trans h.len, fun d v hd => (hg d v hd).elim (fun e => by subst e; exact .leaf _ _ _ rfl (.un _)) (h.slot d v), h.blk, h.nodup, h.disj, h.fresh, h.iin, h.olt, h.below, h.orig, h.defers, h.gl⟩
end
end Go.Proofs.YtdahdpnkppknfaaGreatDoorM
