/- strings.Join over the strings of a slice. Condition: the shelf's two contracts of it. -/
import Derived.Test.YtobmabejfbmmfaaGreatDoorX0
import Derived.Lib.Join
namespace Go.Proofs.YtobmabejfbmmfaaGreatDoorM
set_option linter.unusedVariables false
set_option linter.unusedSimpArgs false
open Go.RowKit
/-- What Join makes. -/
def joined (xs : List ByteArray) (sep : ByteArray) : ByteArray := ⟨(Lib.join (xs.map (·.data.toList)) sep.data.toList).toArray⟩
/-- The strings of a slice that may be read lie in its cells. -/
theorem Vw.strs {P : Program} {I : Nat → Prop} {w : World} {o : Bool} {e : Nat} {xs : List ByteArray} {u : Value} (h : Vw P I w (.sl o e (xs.map fun x => V.sc (.string x))) u) :
    ∃ A cap, u = .slice A xs.length cap ∧ xs.length ≤ cap ∧ (A = none → xs = []) ∧ ∀ ad, A = some ad → (0 < xs.length → I ad.block) ∧ ∀ (j : Nat) (x : ByteArray), xs[j]? = some x → w.cell? ⟨ad.block, ad.off + j, none⟩ = some (.string x) ∧ (j = 0 → ad = ⟨ad.block, ad.off, none⟩) := by
  generalize hels : xs.map (fun x => V.sc (.string x)) = els at h
  cases h with
  | sl _ _ _ A cap sz uss hs hz hl hm hn hI hw hlen hc hr =>
    have hxl : els.length = xs.length := by rw [← hels]; simp
    refine ⟨A, cap, by rw [hxl], by omega, fun h => ?_, fun ad had => ⟨fun hp => hI ad had (by omega), fun j x hj => ?_⟩⟩
    · have := hn h
      rw [this] at hxl
      exact List.length_eq_zero_iff.1 (by simpa using hxl.symm)
    · have he : els[j]? = some (V.sc (.string x)) := by rw [← hels, List.getElem?_map, hj]; rfl
      have hjl : j < els.length := (List.getElem?_eq_some_iff.1 he).1
      have hu : uss[j]? = some uss[j] := List.getElem?_eq_getElem (by omega)
      obtain ⟨c1, c2, _⟩ := hc j _ _ he hu
      have hsz : sz = 1 := by simpa [V.cells] using c1.symm
      subst hsz
      obtain ⟨v, hv⟩ : ∃ v, uss[j] = [v] := by
        match hq : uss[j], c2 with
        | [v], _ => exact ⟨v, rfl⟩
      have hv0 : (uss[j])[0]? = some v := by rw [hv]; rfl
      have hvw := hr j _ _ 0 (V.sc (.string x)) v he hu rfl hv0
      have hveq : v = .string x := by cases hvw with | sc _ _ => rfl
      have := hw ad had j _ 0 v hu hv0
      rw [hveq] at this
      simp only [Nat.mul_one, Nat.add_zero] at this
      have hsp : (ad.add j).spot = none := by
        unfold World.cell? at this
        split at this
        · split at this
          · simp at this
          · rename_i h; simpa using h
        · simp at this
      have e2 : ad.add j = ⟨ad.block, ad.off + j, none⟩ := by
        unfold Addr.add at hsp ⊢
        split
        · rename_i h0
          rw [if_pos h0] at hsp
          subst h0
          cases ad; simp at hsp ⊢; exact hsp
        · rfl
      rw [e2] at this
      refine ⟨this, fun h0 => ?_⟩
      subst h0
      simpa [Addr.add] using e2
theorem Fn.join {P : Program} {f e : Nat} {o : Bool} (he : enters P f = true)
    (hnone : ∀ (a : Option Addr) (c : Nat) (sep : ByteArray) (w : World), Calls P f #[.slice a 0 c, .string sep] w fun e w' => e = .returned (.string ⟨#[]⟩) ∧ w' = w)
    (hany : ∀ (bk o c : Nat) (xs : List ByteArray) (sep : ByteArray) (w : World), (∀ (j : Nat) x, xs[j]? = some x → w.cell? ⟨bk, o + j, none⟩ = some (.string x)) → bk < w.heap.size → xs.length ≤ 140737488355328 → xs.length ≤ c →
      (Lib.join (xs.map (·.data.toList)) sep.data.toList).length ≤ 140737488355328 → Calls P f #[.slice (some ⟨bk, o, none⟩) xs.length c, .string sep] w fun e w' => e = .returned (.string ⟨(Lib.join (xs.map (·.data.toList)) sep.data.toList).toArray⟩) ∧ Below w.heap.size w w')
    (xs : List ByteArray) (sep : ByteArray) (hN : xs.length ≤ 140737488355328) (hlen : (joined xs sep).size ≤ 140737488355328) :
    Fn P f [(false, .sl o e (xs.map fun x => V.sc (.string x))), (false, .sc (.string sep))] (.sc (.string (joined xs sep))) [] := by
  refine ⟨he, fun I w us fa hI hn hd ha hg => ?_⟩
  match us, ha with
  | [u1, u2], ⟨h1, h2, h3⟩ =>
    have h3 : fa = [] := h3
    subst h3
    have h2 : u2 = .string sep := by cases h2 with | sc _ _ => rfl
    subst h2
    obtain ⟨A, cap, rfl, hcap, hA, hc⟩ := h1.strs
    have key : Calls P f #[.slice A xs.length cap, .string sep] w fun e w' => e = .returned (.string (joined xs sep)) ∧ Below w.heap.size w w' := by
      match xs, hN, hlen, hcap, hA, hc with
      | [], _, _, _, _, _ => exact (hnone A cap sep w).mono fun e w' ⟨h1, h2⟩ => ⟨by rw [h1]; rfl, h2 ▸ Below.refl _ _⟩
      | x :: r, hN, hlen, hcap, hA, hc =>
        cases A with
        | none => exact absurd (hA rfl) (by simp)
        | some ad =>
          have had := ((hc ad rfl).2 0 x rfl).2 rfl
          rw [had]
          exact hany ad.block ad.off cap (x :: r) sep w (fun j x hj => ((hc ad rfl).2 j x hj).1) (hI _ ((hc ad rfl).1 (by simp))) hN hcap (by simpa [joined, ByteArray.size] using hlen)
    refine key.mono fun e w' ⟨h1, h2⟩ => ⟨_, [], [], h1, .leaf _ _ _ rfl (.sc _ rfl), by simpa using PwL.nil, by simp, by simp, h2.os, h2.tape, h2.output, h2.size, fun k hk => h2.block k hk.1⟩
end Go.Proofs.YtobmabejfbmmfaaGreatDoorM
