/- Laws of the plain functions. No condition. -/
import Derived.Test.YtdcejeemommkfaaLkP0
namespace Go.Proofs.YtdcejeemommkfaaM
set_option linter.unusedVariables false
set_option linter.unusedSimpArgs false
set_option maxRecDepth 100000
theorem impl_Gather_l0_val (l : List Stripe) : ∀ (t : List Stripe) (v : List Acct), v.length + wtL wtStripe t ≤ 4000000 → impl_Gather_l0 l t v = some (v ++ allA t)
  | [], v, _ => by simp [impl_Gather_l0, allA]
  | s :: t, v, hl => by
    have e := wtStripe_eq s
    have h2 := wtL_len wtAcct s.Accts
    simp only [wtL] at hl
    have ih := impl_Gather_l0_val l t (v ++ s.Accts) (by simp <;> omega)
    unfold impl_Gather_l0
    rw [Book_copied_val (Book.mk s.Accts) (show wtL wtAcct s.Accts ≤ 4000000 by omega), Option.bind_some, capOk_of (show v.length + s.Accts.length ≤ 274877906944 by omega), if_pos rfl, ih]
    simp [allA]
theorem wtL_allA : ∀ l : List Stripe, wtL wtAcct (allA l) ≤ wtL wtStripe l
  | [] => by simp [allA, wtL]
  | s :: t => by
    have e := wtStripe_eq s
    have := wtL_allA t
    simp only [allA, List.flatMap_cons, wtL] at this ⊢
    rw [wtL_app]; omega
/-! books made by draws -/
def ids6 : List ByteArray := [bs [49, 56], bs [50, 54], bs [51, 52], bs [52, 50], bs [53, 57], bs [54, 55]]
def ltId (x y : Acct) : Prop := ltBA x y = true
theorem ids6_ok : ∀ x ∈ ids6, spec_AcctIdOk x = some true := by
  intro x hx
  simp only [ids6, List.mem_cons, List.not_mem_nil, or_false] at hx
  rcases hx with rfl | rfl | rfl | rfl | rfl | rfl <;> kernel_rfl
theorem ids6_lt : ids6.Pairwise (fun x y => Op.bytesLess x.toList y.toList = true) := by
  unfold ids6
  simp only [List.pairwise_cons, List.mem_cons, List.not_mem_nil, or_false, forall_eq_or_imp, forall_eq, List.Pairwise.nil, and_true, false_implies, implies_true]
  refine ⟨⟨?_, ?_, ?_, ?_, ?_⟩, ⟨?_, ?_, ?_, ?_⟩, ⟨?_, ?_, ?_⟩, ⟨?_, ?_⟩, ?_⟩ <;> kernel_rfl
theorem l12Draw_l0_tot : ∀ (m N : Nat) (k : Nat) (b : List Int) (i h : Int) (v : List Acct), cur (l01Cur.mk b i h) → k + m = 6 → m < N → v.length ≤ k → (∀ a ∈ v, acctD a) → v.Pairwise ltId → (∀ a ∈ v, ∀ y ∈ ids6.drop k, Op.bytesLess a.Id.toList y.toList = true) →
    ∃ b' i' h' y, spec_l12Draw_l0 N b i h (k : Int) v = some (b', i', h', y) ∧ cur (l01Cur.mk b' i' h') ∧ y.length ≤ 6 ∧ (∀ a ∈ y, acctD a) ∧ y.Pairwise ltId
  | m, 0, k, b, i, h, v, _, _, hN, _, _, _, _ => by omega
  | 0, N + 1, k, b, i, h, v, hc, hk, hN, hl, hd, hp, hq => by
    refine ⟨b, i, h, v, ?_, hc, by omega, hd, hp⟩
    unfold spec_l12Draw_l0
    rw [if_neg (by simp; omega)]
  | m + 1, N + 1, k, b, i, h, v, hc, hk, hN, hl, hd, hp, hq => by
    have hk6 : k < ids6.length := by show k < 6; omega
    have hg : ids6[k]? = some ids6[k] := List.getElem?_eq_getElem hk6
    have hdr : ids6.drop k = ids6[k] :: ids6.drop (k + 1) := List.drop_eq_getElem_cons hk6
    have hok := ids6_ok _ (List.getElem_mem hk6)
    have hlt : ∀ y ∈ ids6.drop (k + 1), Op.bytesLess (ids6[k]).toList y.toList = true := by
      have : (ids6.drop k).Pairwise (fun x y => Op.bytesLess x.toList y.toList = true) := ids6_lt.sublist (List.drop_sublist _ _)
      rw [hdr] at this
      exact (List.pairwise_cons.1 this).1
    rw [hdr] at hq
    generalize ids6[k] = id at hg hok hlt hq
    have hi : i64 ((k : Int) + 1) = ((k + 1 : Nat) : Int) := i64_eq _ (by omega) (by omega)
    obtain ⟨r, c1, e1, k1⟩ := Once_tot (l01Cur.mk b i h) 3 hc
    unfold spec_l12Draw_l0
    rw [if_pos (decide_eq_true (show (k : Int) < 6 by omega)), if_pos (nnB k), Int.toNat_natCast, show [bs [49, 56], bs [50, 54], bs [51, 52], bs [52, 50], bs [53, 57], bs [54, 55]][k]? = some id from hg, Option.bind_some, e1, Option.bind_some]
    cases r with
    | true =>
      rw [if_pos rfl, hi]
      exact l12Draw_l0_tot m N (k + 1) _ _ _ v k1 (by omega) (by omega) (by omega) hd hp (fun a ha y hy => hq a ha y (by simp [hy]))
    | false =>
      obtain ⟨a, c2, e2, k2, d2, q2⟩ := l09Draw_tot c1 id k1 hok
      rw [if_neg (by simp), e2, Option.bind_some, capOk_of (show v.length + 1 ≤ 274877906944 by omega), if_pos rfl, hi]
      refine l12Draw_l0_tot m N (k + 1) _ _ _ (v ++ [a]) k2 (by omega) (by omega) (by simp; omega) (fun x hx => ?_) ?_ (fun x hx y hy => ?_)
      · rcases List.mem_append.1 hx with hx | hx
        · exact hd x hx
        · rw [List.mem_singleton.1 hx]; exact d2
      · refine List.pairwise_append.2 ⟨hp, by simp, fun x hx y hy => ?_⟩
        rw [List.mem_singleton.1 hy]
        unfold ltId ltBA
        rw [q2]
        exact hq x hx id (by simp)
      · rcases List.mem_append.1 hx with hx | hx
        · exact hq x hx y (by simp [hy])
        · rw [List.mem_singleton.1 hx, q2]; exact hlt y hy
theorem MakeBook_tot (code : List Int) (h : code.length ≤ 1048576) : ∃ b, spec_MakeBook code = some b ∧ b.Accts.length ≤ 6 ∧ (∀ a ∈ b.Accts, acctD a) ∧ b.Accts.Pairwise ltId ∧ 1 ≤ b.Accts.length := by
  obtain ⟨c, e, k⟩ := New_tot code h
  obtain ⟨b', i', h', y, e2, k2, hl, hd, hp⟩ := l12Draw_l0_tot 6 FUEL 0 c.b c.i c.h [] k rfl (by unfold FUEL; omega) (by simp) (by simp) (by simp) (by simp)
  unfold spec_MakeBook spec_l12Draw
  rw [e, Option.bind_some, show ((0 : Nat) : Int) = 0 from rfl] at *
  rw [e2, Option.bind_some, Option.bind_some]
  by_cases h0 : y.length = 0
  · obtain ⟨a, c2, e3, k3, d3, _⟩ := l09Draw_tot (l01Cur.mk b' i' h') (bs [49, 56]) k2 (ids6_ok _ (by simp [ids6]))
    rw [if_pos (by simp [h0]), e3, Option.bind_some, capOk_of (show y.length + 1 ≤ 274877906944 by omega), if_pos rfl]
    have : y = [] := List.eq_nil_of_length_eq_zero h0
    subst this
    exact ⟨_, rfl, by simp, by simpa using d3, by simp, by simp⟩
  · rw [if_neg (by simp; exact fun h => h0 (by simp [h]))]
    exact ⟨_, rfl, hl, hd, hp, by show 1 ≤ y.length; omega⟩
theorem BookOk_l0_true (b : Book) (hl : b.Accts.length ≤ 6) (hd : ∀ a ∈ b.Accts, acctD a) (hp : b.Accts.Pairwise ltId) : ∀ t p : List Acct, b.Accts = p ++ t → impl_BookOk_l0 b t p = some (.out ())
  | [], p, _ => rfl
  | x :: t, p, e => by
    have ih := BookOk_l0_true b hl hd hp t (p ++ [x]) (by rw [e]; simp)
    have hpl : p.length ≤ b.Accts.length := by rw [e]; simp
    unfold impl_BookOk_l0
    rw [AcctOk_true (hd x (by rw [e]; simp)), Option.bind_some, if_pos rfl]
    by_cases h0 : (0 : Int) < (p.length : Int)
    · obtain ⟨T, y, rfl⟩ := snoc_of (l := p) (fun e => by simp [e] at h0)
      have hTl : (T ++ [y]).length = T.length + 1 := by simp
      have hi : i64 (((T ++ [y]).length : Int) - 1) = (T.length : Int) := i64_eq _ (by omega) (by omega)
      have hg : b.Accts[T.length]? = some y := by rw [e, List.append_assoc]; exact get0 T (x :: t) y
      have hlt : ltBA y x = true := by
        rw [e] at hp
        exact (List.pairwise_append.1 hp).2.2 y (by simp) x (by simp)
      have hb : (Op.bytesLess x.Id.toList y.Id.toList || (x.Id == y.Id)) = false := by
        have h1 := swBA.1 y x hlt
        unfold ltBA at h1 hlt
        rw [h1, Bool.false_or, beqB]
        refine decide_eq_false fun hq => ?_
        rw [hq] at h1 hlt
        rw [h1] at hlt
        exact absurd hlt (by simp)
      rw [if_pos (decide_eq_true h0), hi, if_pos (nnB _), Int.toNat_natCast, hg, Option.bind_some, hb, if_neg (by simp)]
      exact ih
    · rw [if_neg (by simpa using h0)]
      exact ih
theorem BookOk_true (b : Book) (hl : b.Accts.length ≤ 6) (hd : ∀ a ∈ b.Accts, acctD a) (hp : b.Accts.Pairwise ltId) : impl_BookOk b = some true := by
  unfold impl_BookOk
  rw [capOk_of (by omega), if_pos rfl, BookOk_l0_true b hl hd hp b.Accts [] rfl, Option.bind_some]
  show some (decide ((b.Accts.length : Int) ≤ 6)) = some true
  rw [decide_eq_true (show (b.Accts.length : Int) ≤ 6 by omega)]
theorem Gather_impl (l : List Stripe) (h : wtL wtStripe l ≤ 1048576) : impl_Gather l = some (Book.mk (mgB ltBA [] (allA l))) := by
  have hl := wtL_len wtStripe l
  have ha := wtL_allA l
  have hb := wtL_len wtAcct (allA l)
  unfold impl_Gather slices_SortStableFunc_impl_Acct_impl_Gather_1
  rw [capOk_of (by omega), if_pos rfl, impl_Gather_l0_val l l [] (by simp <;> omega), Option.bind_some, List.nil_append, stable_valA (allA l) (by omega) (fun _ _ => trivial)]
  rfl
/-! all accounts of the stripes of a book are the book's -/
theorem insB_perm {α : Type} (lt : α → α → Bool) (b : α) : ∀ l : List α, (insB lt b l).Perm (b :: l)
  | [] => List.Perm.refl _
  | x :: l => by
    unfold insB
    split
    · exact List.Perm.refl _
    · exact ((insB_perm lt b l).cons x).trans (List.Perm.swap b x l)
theorem mgB_perm {α : Type} (lt : α → α → Bool) : ∀ B A : List α, (mgB lt A B).Perm (A ++ B)
  | [], A => by simp [mgB]
  | b :: B, A => by
    rw [mgB_cons]
    exact (mgB_perm lt B _).trans (((insB_perm lt b A).append_right B).trans List.perm_middle.symm)
theorem srt_unique {lt : Acct → Acct → Bool} : ∀ {A B : List Acct}, A.Perm B → B.Pairwise (fun x y => lt x y = true) → SrtB lt A → A = B
  | [], B, h, _, _ => h.nil_eq
  | a :: A, [], h, _, _ => absurd h.length_eq (by simp)
  | a :: A, b :: B, h, hb, ha => by
    have hb' := List.pairwise_cons.1 hb
    have ha' := List.pairwise_cons.1 ha
    have e : a = b := by
      rcases List.mem_cons.1 (h.mem_iff.1 (List.mem_cons_self : a ∈ a :: A)) with e | h1
      · exact e
      · rcases List.mem_cons.1 (h.mem_iff.2 (List.mem_cons_self : b ∈ b :: B)) with e | h2
        · exact e.symm
        · have q1 := hb'.1 a h1
          have q2 := ha'.1 b h2
          rw [q1] at q2
          exact absurd q2 (by simp)
    subst e
    rw [srt_unique h.cons_inv hb'.2 ha'.2]
theorem filter_perm {α : Type} (p q r : α → Bool) (hr : ∀ x, r x = (p x || q x)) (hn : ∀ x, p x = true → q x = false) : ∀ l : List α, (l.filter p ++ l.filter q).Perm (l.filter r)
  | [] => List.Perm.refl _
  | x :: l => by
    have ih := filter_perm p q r hr hn l
    simp only [List.filter_cons, hr x]
    cases hp : p x with
    | true =>
      rw [hn x hp]
      simpa using ih
    | false =>
      cases hq : q x with
      | true => simpa using List.perm_middle.trans (ih.cons x)
      | false => simpa using ih
theorem allA_stripes (l : List Acct) (n : Int) : ∀ (m : Nat) (k : Int), (allA (stripesFrom l n m k)).Perm (l.filter fun a => decide (k ≤ sno a.Id n) && decide (sno a.Id n < k + m))
  | 0, k => by
    have : l.filter (fun a => decide (k ≤ sno a.Id n) && decide (sno a.Id n < k + ((0 : Nat) : Int))) = [] := by
      rw [List.filter_eq_nil_iff]
      intro a _
      simp <;> omega
    rw [this]
    exact List.Perm.refl _
  | m + 1, k => by
    have ih := allA_stripes l n m (k + 1)
    have e : allA (stripesFrom l n (m + 1) k) = l.filter (inS n k) ++ allA (stripesFrom l n m (k + 1)) := by simp [allA, stripesFrom]
    rw [e]
    refine ((ih.append_left _).trans (filter_perm _ _ _ (fun x => ?_) (fun x hx => ?_) l))
    · unfold inS
      by_cases h : sno x.Id n = k
      · have : (sno x.Id n == k) = true := by simp [h]
        rw [this, Bool.true_or]
        simp; omega
      · have : (sno x.Id n == k) = false := by rw [beq_eq_false_iff_ne]; exact h
        rw [this, Bool.false_or]
        congr 1 <;> rw [decide_eq_decide] <;> omega
    · unfold inS at hx
      simp at hx
      simp; omega
theorem owned_val (l : List Stripe) (k : Nat) (o : Int) {x : Stripe} (hx : l[k]? = some x) (h : wtL wtStripe l ≤ 4000000) : impl_owned l (k : Int) o = some (l.set k (Stripe.mk o x.Accts)) := by
  unfold impl_owned
  rw [copyStripes_val l h, Option.bind_some, if_pos (nnB k), Int.toNat_natCast, hx]
  rfl
theorem in_len {l : List Stripe} {k : Nat} (hk : k < l.length) (h : l.length ≤ 4000000) : impl_within (k : Int) 0 (i64 ((l.length : Int) - 1)) = some true := by
  rw [within_val, i64_of (by omega) (by omega)]
  have h1 : decide ((0 : Int) ≤ (k : Int)) = true := decide_eq_true (by omega)
  have h2 : decide ((k : Int) ≤ (l.length : Int) - 1) = true := decide_eq_true (by omega)
  rw [h1, h2]; rfl
theorem TakeLock_free (l : List Stripe) (k : Nat) (t : Int) {x : Stripe} (hx : l[k]? = some x) (ho : x.Owner = -1) (ht : 0 ≤ t ∧ t ≤ 11) (h : wtL wtStripe l ≤ 4000000) : impl_TakeLock l (k : Int) t = some (l.set k (Stripe.mk t x.Accts), true) := by
  have hl := wtL_len wtStripe l
  have hk : k < l.length := (List.getElem?_eq_some_iff.1 hx).1
  have ht2 : impl_within t 0 11 = some true := by
    rw [within_val, decide_eq_true ht.1, decide_eq_true ht.2]; rfl
  unfold impl_TakeLock
  rw [in_len hk (by omega), Option.bind_some, if_pos rfl, if_pos (nnB k), Int.toNat_natCast, hx, Option.bind_some, if_neg (by simp [ho]), ht2, Option.bind_some, if_pos rfl, owned_val l k t hx h]
  rfl
theorem TakeLock_held (l : List Stripe) (k : Nat) (t : Int) {x : Stripe} (hx : l[k]? = some x) (ho : x.Owner ≠ -1) (h : wtL wtStripe l ≤ 4000000) : impl_TakeLock l (k : Int) t = some ([], false) := by
  have hl := wtL_len wtStripe l
  have hk : k < l.length := (List.getElem?_eq_some_iff.1 hx).1
  unfold impl_TakeLock
  rw [in_len hk (by omega), Option.bind_some, if_pos rfl, if_pos (nnB k), Int.toNat_natCast, hx, Option.bind_some, if_pos (by simpa using ho)]
theorem GiveLock_own (l : List Stripe) (k : Nat) (t : Int) {x : Stripe} (hx : l[k]? = some x) (ho : x.Owner = t) (ht : 0 ≤ t) (h : wtL wtStripe l ≤ 4000000) : impl_GiveLock l (k : Int) t = some (l.set k (Stripe.mk (-1) x.Accts), true) := by
  have hl := wtL_len wtStripe l
  have hk : k < l.length := (List.getElem?_eq_some_iff.1 hx).1
  unfold impl_GiveLock
  rw [in_len hk (by omega), Option.bind_some, if_pos rfl, if_neg (by simp; omega), if_pos (nnB k), Int.toNat_natCast, hx, Option.bind_some, if_neg (by simp [ho]), owned_val l k (-1) hx h]
  rfl
theorem GiveLock_other (l : List Stripe) (k : Nat) (t : Int) {x : Stripe} (hx : l[k]? = some x) (ho : x.Owner ≠ t) (ht : 0 ≤ t) (h : wtL wtStripe l ≤ 4000000) : impl_GiveLock l (k : Int) t = some ([], false) := by
  have hl := wtL_len wtStripe l
  have hk : k < l.length := (List.getElem?_eq_some_iff.1 hx).1
  unfold impl_GiveLock
  rw [in_len hk (by omega), Option.bind_some, if_pos rfl, if_neg (by simp; omega), if_pos (nnB k), Int.toNat_natCast, hx, Option.bind_some, if_pos (by simpa using ho)]
theorem listEq_rfl {α : Type} (q : α → α → Bool) (hq : ∀ x, q x x = true) (l : List α) : listEq q l l = true := by
  unfold listEq
  rw [bne_rfl]
  show all2 q l l = true
  induction l with
  | nil => rfl
  | cons x t ih => simp only [all2, hq, ih, Bool.and_self]
theorem acctEq_rfl (a : Acct) : acctEq a a = true := by
  unfold acctEq ringEq
  rw [listEq_rfl holdEq (fun x => by unfold holdEq; simp [beq_rfl]), listEq_rfl slotEq (fun x => by unfold slotEq; simp [beq_rfl])]
  simp [beq_rfl]
theorem Spread_at (b : Book) (m : Nat) (h1 : 1 ≤ m) (h5 : m ≤ 5) (hw : wtL wtAcct b.Accts ≤ 1048576) (hok : impl_BookOk b = some true) : impl_Spread b (m : Int) = some (stripesFrom b.Accts (m : Int) m 0) := by
  have hl := wtL_len wtAcct b.Accts
  have hs : ∀ x ∈ b.Accts, smallId x := okAs_of (by omega)
  unfold impl_Spread
  rw [hok]
  simp only [Option.bind_some, within_val]
  have hb : (decide ((1 : Int) ≤ (m : Int)) && decide ((m : Int) ≤ 5)) = true := by simp; omega
  simp only [hb, if_true]
  rw [impl_Spread_l0_val b m m FUEL 0 [] (by omega) (by unfold FUEL; omega) (by omega) (by omega) (by simp; omega)]
  simp only [Option.bind_some, List.nil_append, capOk_of (show b.Accts.length ≤ 274877906944 by omega), if_true]
  rw [impl_Spread_l1_val b m m rfl (by omega) (by omega) b.Accts [] _ rfl hs (stripesFrom_nil m m 0)]
  rfl
theorem Gather_Spread (b : Book) (m : Nat) (h1 : 1 ≤ m) (hw : wtL wtAcct b.Accts ≤ 1048576) (hp : b.Accts.Pairwise ltId) : mgB ltBA [] (allA (stripesFrom b.Accts (m : Int) m 0)) = b.Accts := by
  have hs : ∀ x ∈ b.Accts, smallId x := okAs_of (by omega)
  refine srt_unique ?_ hp (srtB_srt swBA _)
  refine (mgB_perm ltBA _ []).trans ?_
  rw [List.nil_append]
  refine (allA_stripes b.Accts m m 0).trans ?_
  rw [List.filter_eq_self.2]
  intro a ha
  obtain ⟨_, h0, h2⟩ := sno_i a.Id m (smallId_id (hs a ha))
  have := h2 (by omega)
  simp; omega
namespace Pure
theorem FnLock (o : List Int) (h0 : W22 o) : laws_FnLock o = some true := by
  unfold laws_FnLock
  by_cases s1 : (1048576 : Int) < (o.length : Int)
  · simp only [s1, decide_true, if_true]
  simp only [s1, decide_false, Bool.false_eq_true, if_false]
  obtain ⟨b, e1, hl, hd, hp, _⟩ := MakeBook_tot o (by omega)
  obtain ⟨n, e2, n0, n1⟩ := MakeNum_tot o 5 (by omega)
  have n1 := n1 (by omega)
  obtain ⟨m, rfl⟩ : ∃ m : Nat, n = (m : Int) := ⟨n.toNat, by omega⟩
  have hm : i64 (1 + (m : Int)) = ((m + 1 : Nat) : Int) := i64_eq _ (by omega) (by omega)
  obtain ⟨k, e3, k0, k1⟩ := MakeNum_tot o ((m + 1 : Nat) : Int) (by omega)
  have k1 := k1 (by omega)
  obtain ⟨k, rfl⟩ : ∃ j : Nat, k = (j : Int) := ⟨k.toNat, by omega⟩
  have hw : wtL wtAcct b.Accts ≤ 12006 := by
    have := wtL_bound wtAcct 2000 b.Accts (fun x hx => acctD_wt (hd x hx))
    omega
  have hok := BookOk_true b hl hd hp
  have e4 := Spread_at b (m + 1) (by omega) (by omega) (by omega) hok
  have hg0 := stripesFrom_get b.Accts ((m + 1 : Nat) : Int) (m + 1) 0 k (by omega)
  have hlen := stripesFrom_len b.Accts ((m + 1 : Nat) : Int) (m + 1) 0
  have hws : wtL wtStripe (stripesFrom b.Accts ((m + 1 : Nat) : Int) (m + 1) 0) ≤ 100000 := by
    have h3 := wt_inS b.Accts ((m + 1 : Nat) : Int) (m + 1) 0
    have h4 := wtL_filter wtAcct (fun a : Acct => decide (0 ≤ sno a.Id ((m + 1 : Nat) : Int)) && decide (sno a.Id ((m + 1 : Nat) : Int) < 0 + ((m + 1 : Nat) : Int))) b.Accts
    omega
  have hga := Gather_impl _ (show wtL wtStripe (stripesFrom b.Accts ((m + 1 : Nat) : Int) (m + 1) 0) ≤ 1048576 by omega)
  rw [Gather_Spread b (m + 1) (by omega) (by omega) hp] at hga
  generalize stripesFrom b.Accts ((m + 1 : Nat) : Int) (m + 1) 0 = l at *
  generalize hF : b.Accts.filter (inS ((m + 1 : Nat) : Int) (0 + (k : Int))) = F at hg0
  have hk : k < l.length := by omega
  have g1 : (l.set k (Stripe.mk 3 F))[k]? = some (Stripe.mk 3 F) := by rw [List.getElem?_set_self hk]
  have w1 : wtL wtStripe (l.set k (Stripe.mk 3 F)) ≤ 4000000 := by rw [wt_owner hg0 3]; omega
  have s2 : (l.set k (Stripe.mk 3 F)).set k (Stripe.mk (-1) F) = l := by rw [List.set_set]; exact set_self hg0
  have t1 := TakeLock_free l k 3 hg0 rfl (by omega) (by omega)
  have t2 := TakeLock_held _ k 4 g1 (by simp) w1
  have t3 := GiveLock_other _ k 4 g1 (by simp) (by omega) w1
  have t4 := GiveLock_own _ k 3 g1 rfl (by omega) w1
  have t5 := GiveLock_other l k 3 hg0 (by simp) (by omega) (by omega)
  simp only at t1 t4
  rw [s2] at t4
  have hbs := impl_BookSame_val b b (fun x hx => acctD_okA (hd x hx)) (fun x hx => acctD_okA (hd x hx)) (by omega)
  rw [listEq_rfl acctEq acctEq_rfl] at hbs
  have q1 : ((l.length : Int) == ((m + 1 : Nat) : Int)) = true := by rw [hlen]; simp
  rw [e1, Option.bind_some, e2, Option.bind_some, hm, e3, Option.bind_some, e4, Option.bind_some, t1, Option.bind_some]
  simp only [t2, t3, t4, t5, Option.bind_some, Bool.false_eq_true, if_true, if_false, List.length_set, q1, nnB, Int.toNat_natCast, g1, hg0, beq_self_eq_true, set_self hg0, hga, hbs]
end Pure
end Go.Proofs.YtdcejeemommkfaaM
