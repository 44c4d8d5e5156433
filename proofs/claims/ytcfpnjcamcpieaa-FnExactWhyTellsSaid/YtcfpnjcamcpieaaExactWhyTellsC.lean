/- For every argument that can be read, the exact law of WhyTells returns true and leaves its arguments as they were; there is no condition. -/
import Derived.Test.YtcfpnjcamcpieaaRows
import Derived.WalkKit
import Derived.ProofKit
import Derived.OpenShut
import Derived.ShutString
import Derived.ChangeOld
import Derived.Below
import Derived.Test.YtcfpnjcamcpieaaPw6
import Derived.Test.YtcfpnjcamcpieaaPw50
namespace Go.Proofs.Ytcfpnjcamcpieaa.fnExactWhyTells
open Go Go.ChangeShapes Go.WideShapes Go.ChangeAt Go.RowKit
set_option linter.unusedVariables false
theorem own : ownKnob Try.prog.godebug = none := by kernel_rfl
theorem laidOut : laidOutB Try.prog = true := by kernel_rfl
set_option maxRecDepth 100000 in
theorem lifted (os : Os) (started : os.Started) (H : Type) (enc : TypeId × Value → H) :
  ReturnsInHanded {} Try.checked os 3 .any (Rows.fnExactWhyTellsSpec.pre6 enc Try.prog Try.f3 Rows.fnExactWhyTellsRow.domain false) (Rows.fnExactWhyTellsSpec.post enc Try.prog Try.f3 false true false false) := by
 refine returnsInHanded_of_change (C := Try.checked) own started (by kernel_rfl) Try.func3
  (ChangeSpec.witness6 (enc := enc) (C := Try.checked) false ⟨#[], #[.agg #[.slice none 0 0], .slice none 0 0, .agg #[.int .i64 0, .int .i64 0, .string ⟨#[]⟩, .slice none 0 0, .slice none 0 0]], []⟩ 8 (by kernel_rfl) (by kernel_rfl) (by kernel_rfl) (by kernel_rfl)) ?_
 intro W base args ds gs before hval0 hW hcnd _
 have hval : ∀ (j : Nat) t v, Try.f3.params[j]? = some t → args[j]? = some v → Value.okWide Try.prog W .any base t v := hval0
 have hW' := hW
 obtain ⟨p, q, hA0, hV, rfl, hfz, hnd⟩ := hW
 have hA : DataW.TrodAll enc Try.prog W 0 (fun _ => true) true Try.f3.params.toList args.toList ds p := hA0
 rw [Try.params3] at hA hval
 obtain ⟨v0, vs0, d0, ds0, p0, q0, hargs, rfl, rfl, h0, r0⟩ := trodAll_cons hA
 obtain ⟨v1, vs1, d1, ds1, p1, q1, rfl, rfl, rfl, h1, r1⟩ := trodAll_cons r0
 obtain ⟨v2, vs2, d2, ds2, p2, q2, rfl, rfl, rfl, h2, r2⟩ := trodAll_cons r1
 obtain ⟨rfl, rfl, rfl⟩ := trodAll_nil r2
 obtain rfl : args = #[v0, v1, v2] := by cases args; simp_all
 obtain ⟨rfl, rfl⟩ := trodVars_none hV
 obtain ⟨cs0, rfl, hz0⟩ := okWide_struct Try.underlying24 (hval 0 24 v0 rfl rfl)
 obtain ⟨a1, len1, cap1, rfl⟩ := okWide_slice Try.underlying25 (hval 1 25 v1 rfl rfl)
 obtain ⟨cs2, rfl, hz2⟩ := okWide_struct Try.underlying31 (hval 2 31 v2 rfl rfl)
 have k0 := h0
 have lt0 : ∀ x ∈ p0, x.block < W.heap.size := by obtain ⟨m, hm⟩ := k0; exact DataW.trod_lt m _ _ _ hm
 obtain ⟨x0, f0, hr0⟩ : ∃ (x : Sg) (f : List Nat), RdVs W x.cd cs0.toList f := by
  obtain ⟨fuel, hf⟩ := h0
  obtain ⟨x, fp, hr⟩ := open_Sg fuel _ _ hf
  exact ⟨x, fp, hr⟩
 have k1 := h1
 have lt1 : ∀ x ∈ p1, x.block < W.heap.size := by obtain ⟨m, hm⟩ := k1; exact DataW.trod_lt m _ _ _ hm
 obtain ⟨x1, f1, hr1⟩ : ∃ (x : List Eqn) (f : List Nat), Rd W (.sl (x.map Eqn.cd)) (.slice a1 len1 cap1) f := by
  obtain ⟨fuel, hf⟩ := h1
  obtain ⟨x, v, fp, hv, hr⟩ := open_Eqns fuel _ _ hf
  exact ⟨x, fp, list1 hv ▸ hr⟩
 have k2 := h2
 have lt2 : ∀ x ∈ p2, x.block < W.heap.size := by obtain ⟨m, hm⟩ := k2; exact DataW.trod_lt m _ _ _ hm
 obtain ⟨x2, f2, hr2⟩ : ∃ (x : Wy) (f : List Nat), RdVs W x.cd cs2.toList f := by
  obtain ⟨fuel, hf⟩ := h2
  obtain ⟨x, fp, hr⟩ := open_Wy fuel _ _ hf
  exact ⟨x, fp, hr⟩
 clear hA0 hval0
 have hwalk := zbr x0 cs0.toList f0 x1 _ f1 x2 cs2.toList f2 W hr0 hr1 hr2
 simp only [Array.toArray_toList] at hwalk
 refine hwalk.mono fun e W' ⟨he, bel⟩ => ?_
 subst he
 exact ⟨_, rfl, _, _, _, [], _, [], hW', trodAll_mk1 (shut_bool Try.underlying4 _), (trodAll_cons_mk (Below.trod laidOut (by kernel_rfl) (of_decide_eq_true (by kernel_rfl)) k0 bel lt0) (trodAll_cons_mk (Below.trod laidOut (by kernel_rfl) (of_decide_eq_true (by kernel_rfl)) k1 bel lt1) (trodAll_cons_mk (Below.trod laidOut (by kernel_rfl) (of_decide_eq_true (by kernel_rfl)) k2 bel lt2) trodAll_mk0))), rfl, bel.frame _, fun h => by cases h⟩
theorem named : Try.pinned.checked.prog.funcNamed Rows.fnExactWhyTellsRow.func = some 3 := by kernel_rfl
theorem closed : joinedFacts Try.pinned.checked.prog 3 Try.f3 Rows.fnExactWhyTellsSpec Rows.fnExactWhyTellsRow = true := by kernel_rfl
theorem plain : Try.f3.isInstance Try.pinned.checked.prog Rows.fnExactWhyTellsRow.origin Rows.fnExactWhyTellsRow.targs := of_decide_eq_true (by kernel_rfl)
theorem bare : Try.f3.isWrapper Try.pinned.checked.prog Rows.fnExactWhyTellsRow.wrapper Rows.fnExactWhyTellsRow.mainSum := by unfold Func.isWrapper; first | (rw [if_pos (by decide +kernel)]; kernel_rfl) | (rw [if_neg (by decide +kernel)]; exact ⟨rfl, rfl⟩)
theorem over : Rows.fnExactWhyTellsRow.holds Try.pinned (OpenSpec.ofChange Rows.fnExactWhyTellsSpec) :=
 OpenClaim.holds_of_wide 3 Try.f3 rfl rfl rfl rfl rfl rfl rfl ⟨rfl, rfl, rfl, rfl, rfl⟩ rfl rfl rfl rfl rfl named Try.func3 closed plain bare
  (fun os started H enc _ => lifted os started H enc)
theorem proved : Rows.FnExactWhyTellsSaid := over
end Go.Proofs.Ytcfpnjcamcpieaa.fnExactWhyTells
