/- The row of the law laws_FnExactMeets: for every input it returns true, and its arguments read as before. Conditions: none beside the row's own. -/
import Derived.Test.YtbhcahiafibhfaaRows
import Derived.Test.YtbhcahiafibhfaaOFnExactMeets
import Derived.Test.YtbhcahiafibhfaaPureFnExactMeets
import Derived.WalkKit
import Derived.ProofKit
import Derived.OpenShut
import Derived.ShutString
import Derived.ChangeOld
import Derived.Below
import Derived.SizedLaws
import Derived.Carry
namespace Go.Proofs.Ytbhcahiafibhfaa.fnExactMeets
open Go.ChangeShapes Go.WideShapes Go.ChangeAt Go.RowKit Go.Proofs.Ytbhcahiafibhfaa.V Go.Proofs.YtbhcahiafibhfaaW.Opens Go.Proofs.YtbhcahiafibhfaaW.PrintWords
open Go.ChangeMaps (open_string shut_string)
theorem own : ownKnob Try.prog.godebug = none := by kernel_rfl
theorem laidOut : laidOutB Try.prog = true := by kernel_rfl
set_option maxRecDepth 100000 in
theorem lifted (os : Os) (started : os.Started) (H : Type) (enc : TypeId × Value → H) :
    ReturnsInHanded {} Try.checked os 4 .any (Rows.fnExactMeetsSpec.pre6 enc Try.prog Try.f4 Rows.fnExactMeetsRow.domain false) (Rows.fnExactMeetsSpec.post enc Try.prog Try.f4 false true false false) := by
  refine returnsInHanded_of_change_sized (C := Try.checked) own started (by kernel_rfl) Try.func4
    (ChangeSpec.witness6 (enc := enc) (C := Try.checked) false ⟨#[], #[.agg #[.slice none 0 0, .int .i64 0, .slice none 0 0, .int .i64 0, .int .i64 0, .int .i64 0, .int .i64 0, .int .i64 0, .slice none 0 0], .agg #[.slice none 0 0, .int .i64 0, .slice none 0 0, .int .i64 0, .int .i64 0, .int .i64 0, .int .i64 0, .int .i64 0, .slice none 0 0]], []⟩ 8 (by kernel_rfl) (by kernel_rfl) (by kernel_rfl) (by kernel_rfl)) ?_
  intro W base args ds gs before hval0 hW hcnd hsz0 _
  have hsz : (DataW.weightsEach Try.prog (Try.f4.params.toList ++ Rows.fnExactMeetsSpec.plain.varTypes Try.prog) (ds ++ gs)).all (· ≤ reachBytes) = true := hsz0
  have hval : ∀ (j : Nat) t v, Try.f4.params[j]? = some t → args[j]? = some v → Value.okWide Try.prog W .any base t v := hval0
  have hW' := hW
  obtain ⟨p, q, hA0, hV, rfl, hfz, hnd⟩ := hW
  have hA : DataW.TrodAll enc Try.prog W 0 (fun _ => true) true Try.f4.params.toList args.toList ds p := hA0
  rw [Try.params4] at hA hval hsz
  obtain ⟨v0, vs0, d0, ds0, p0, q0, hargs, rfl, rfl, h0, r0⟩ := trodAll_cons hA
  obtain ⟨v1, vs1, d1, ds1, p1, q1, rfl, rfl, rfl, h1, r1⟩ := trodAll_cons r0
  obtain ⟨rfl, rfl, rfl⟩ := trodAll_nil r1
  obtain rfl : args = #[v0, v1] := by cases args; simp_all
  obtain ⟨rfl, rfl⟩ := trodVars_none hV
  simp only [List.cons_append, List.nil_append, List.append_nil, DataW.weightsEach, List.all_append, Bool.and_eq_true] at hsz
  have hz0 := hsz.1
  have k0 := h0
  have lt0 : ∀ x ∈ p0, x.block < W.heap.size := by obtain ⟨m, hm⟩ := k0; exact DataW.trod_lt m _ _ _ hm
  obtain ⟨cs0, rfl, _⟩ := okWide_struct Try.underlying32 (hval 0 32 v0 rfl rfl)
  obtain ⟨f0, hf0⟩ := h0
  obtain ⟨x0, hK0, hB0⟩ := opens32.reads enc W _ _ f0 _ _ hf0 hz0
  obtain ⟨A0_0, c0_0, A0_2, c0_2, A0_8, c0_8, hcs0, l0_0, g0_0, l0_2, g0_2, l0_8, g0_8⟩ := k32_open hK0
  obtain rfl : cs0 = #[.slice A0_0 x0.f0.length c0_0, .int .i64 x0.f1, .slice A0_2 x0.f2.length c0_2, .int .i64 x0.f3, .int .i64 x0.f4, .int .i64 x0.f5, .int .i64 x0.f6, .int .i64 x0.f7, .slice A0_8 x0.f8.length c0_8] := Array.toList_inj.mp (by simpa [Value.cells] using hcs0)
  have hz1 := hsz.2.1
  have k1 := h1
  have lt1 : ∀ x ∈ p1, x.block < W.heap.size := by obtain ⟨m, hm⟩ := k1; exact DataW.trod_lt m _ _ _ hm
  obtain ⟨cs1, rfl, _⟩ := okWide_struct Try.underlying32 (hval 1 32 v1 rfl rfl)
  obtain ⟨f1, hf1⟩ := h1
  obtain ⟨x1, hK1, hB1⟩ := opens32.reads enc W _ _ f1 _ _ hf1 hz1
  obtain ⟨A1_0, c1_0, A1_2, c1_2, A1_8, c1_8, hcs1, l1_0, g1_0, l1_2, g1_2, l1_8, g1_8⟩ := k32_open hK1
  obtain rfl : cs1 = #[.slice A1_0 x1.f0.length c1_0, .int .i64 x1.f1, .slice A1_2 x1.f2.length c1_2, .int .i64 x1.f3, .int .i64 x1.f4, .int .i64 x1.f5, .int .i64 x1.f6, .int .i64 x1.f7, .slice A1_8 x1.f8.length c1_8] := Array.toList_inj.mp (by simpa [Value.cells] using hcs1)
  obtain ⟨k, hp⟩ := Pure.FnExactMeets x0 x1 hB0 hB1
  refine (laws_FnExactMeets.calls k _ _ x0.f0 x0.f1 _ _ x0.f2 x0.f3 x0.f4 x0.f5 x0.f6 x0.f7 _ _ x0.f8 _ _ x1.f0 x1.f1 _ _ x1.f2 x1.f3 x1.f4 x1.f5 x1.f6 x1.f7 _ _ x1.f8 true W g0_0 l0_0 g0_2 l0_2 g0_8 l0_8 g1_0 l1_0 g1_2 l1_2 g1_8 l1_8 hp rfl).mono fun e W' ⟨he, bel0⟩ => ?_
  have bel := bel0
  subst he
  exact ⟨_, rfl, _, _, _, [], _, [], hW', trodAll_mk1 (shut_bool Try.underlying4 _), (trodAll_cons_mk (Below.trod laidOut (by kernel_rfl) (of_decide_eq_true (by kernel_rfl)) k0 bel lt0) (trodAll_cons_mk (Below.trod laidOut (by kernel_rfl) (of_decide_eq_true (by kernel_rfl)) k1 bel lt1) trodAll_mk0)), rfl, bel.frame _, fun h => by cases h⟩
theorem over : Rows.fnExactMeetsRow.holds Try.pinned (OpenSpec.ofChange Rows.fnExactMeetsSpec) :=
  OpenClaim.holds_of_wide 4 Try.f4 rfl rfl rfl rfl rfl rfl rfl ⟨rfl, rfl, rfl, rfl, rfl⟩ rfl rfl rfl rfl rfl (by kernel_rfl) Try.func4 (by kernel_rfl)
    (of_decide_eq_true (by kernel_rfl)) (by unfold Func.isWrapper; first | (rw [if_pos (by decide +kernel)]; kernel_rfl) | (rw [if_neg (by decide +kernel)]; exact ⟨rfl, rfl⟩))
    (fun os started H enc _ => lifted os started H enc)
theorem proved : Rows.FnExactMeetsSaid := over
#print axioms proved
end Go.Proofs.Ytbhcahiafibhfaa.fnExactMeets
namespace Go.Proofs.Ytbhcahiafibhfaa
/-- The row, under a short name, for the claim. -/
theorem fnExactMeets_holds : Rows.FnExactMeetsSaid := fnExactMeets.proved
end Go.Proofs.Ytbhcahiafibhfaa
