/- For every argument that can be read, the exact law of FormIs returns true and leaves its arguments as they were; there is no condition. -/
import Derived.Test.YtlcfophhjflpdaaRows
import Derived.WalkKit
import Derived.ProofKit
import Derived.OpenShut
import Derived.ShutString
import Derived.ChangeOld
import Derived.Below
import Derived.Test.YtlcfophhjflpdaaOpenAll
import Derived.Test.YtlcfophhjflpdaaLawFormIs
namespace Go.Proofs.Ytlcfophhjflpdaa.fnExactFormIs
open Go Go.ChangeShapes Go.WideShapes Go.ChangeAt Go.RowKit
set_option linter.unusedVariables false

theorem own : ownKnob Try.prog.godebug = none := by kernel_rfl
theorem laidOut : laidOutB Try.prog = true := by kernel_rfl

set_option maxRecDepth 100000 in
theorem lifted (os : Os) (started : os.Started) (H : Type) (enc : TypeId × Value → H) :
    ReturnsInHanded {} Try.checked os 5 .any (Rows.fnExactFormIsSpec.pre6 enc Try.prog Try.f5 Rows.fnExactFormIsRow.domain false) (Rows.fnExactFormIsSpec.post enc Try.prog Try.f5 false true false false) := by
  refine returnsInHanded_of_change (C := Try.checked) own started (by kernel_rfl) Try.func5
    (ChangeSpec.witness6 (enc := enc) (C := Try.checked) false ⟨#[], #[.agg #[.int .i64 0, .int .i64 0, .string ⟨#[]⟩, .slice none 0 0, .string ⟨#[]⟩, .slice none 0 0, .slice none 0 0, .slice none 0 0, .int .i64 0, .bool false, .bool false, .slice none 0 0], .slice none 0 0], []⟩ 8 (by kernel_rfl) (by kernel_rfl) (by kernel_rfl) (by kernel_rfl)) ?_
  intro W base args ds gs before hval0 hW hcnd _
  have hval : ∀ (j : Nat) t v, Try.f5.params[j]? = some t → args[j]? = some v → Value.okWide Try.prog W .any base t v := hval0
  have hW' := hW
  obtain ⟨p, q, hA0, hV, rfl, hfz, hnd⟩ := hW
  have hA : DataW.TrodAll enc Try.prog W 0 (fun _ => true) true Try.f5.params.toList args.toList ds p := hA0
  rw [Try.params5] at hA hval
  obtain ⟨v0, vs0, d0, ds0, p0, q0, hargs, rfl, rfl, h0, r0⟩ := trodAll_cons hA
  obtain ⟨v1, vs1, d1, ds1, p1, q1, rfl, rfl, rfl, h1, r1⟩ := trodAll_cons r0
  obtain ⟨rfl, rfl, rfl⟩ := trodAll_nil r1
  obtain rfl : args = #[v0, v1] := by cases args; simp_all
  obtain ⟨rfl, rfl⟩ := trodVars_none hV
  obtain ⟨cs0, rfl, hz0⟩ := okWide_struct Try.underlying32 (hval 0 32 v0 rfl rfl)
  obtain ⟨a1, len1, cap1, rfl⟩ := okWide_slice Try.underlying58 (hval 1 58 v1 rfl rfl)
  have k0 := h0
  have lt0 : ∀ x ∈ p0, x.block < W.heap.size := by obtain ⟨m, hm⟩ := k0; exact DataW.trod_lt m _ _ _ hm
  obtain ⟨x0, f0, hr0⟩ : ∃ (x : Fm) (f : List Nat), RdVs W x.cd cs0.toList f := by
    obtain ⟨fuel, hf⟩ := h0
    obtain ⟨x, fp, hr⟩ := open_Fm fuel _ _ hf
    exact ⟨x, fp, hr⟩
  have k1 := h1
  have lt1 : ∀ x ∈ p1, x.block < W.heap.size := by obtain ⟨m, hm⟩ := k1; exact DataW.trod_lt m _ _ _ hm
  obtain ⟨x1, f1, hr1⟩ : ∃ (x : List Bool) (f : List Nat), Rd W (.sl (x.map boolCd)) (.slice a1 len1 cap1) f := by
    obtain ⟨fuel, hf⟩ := h1
    obtain ⟨x, v, fp, hv, hr⟩ := open_Bools fuel _ _ hf
    exact ⟨x, fp, list1 hv ▸ hr⟩
  clear hA0 hval0
  have hwalk := exFormIs_walk x0 cs0.toList f0 x1 _ f1 W hr0 hr1
  simp only [Array.toArray_toList] at hwalk
  refine hwalk.mono fun e W' ⟨he, bel⟩ => ?_
  subst he
  exact ⟨_, rfl, _, _, _, [], _, [], hW', trodAll_mk1 (shut_bool Try.underlying4 _), (trodAll_cons_mk (Below.trod laidOut (by kernel_rfl) (of_decide_eq_true (by kernel_rfl)) k0 bel lt0) (trodAll_cons_mk (Below.trod laidOut (by kernel_rfl) (of_decide_eq_true (by kernel_rfl)) k1 bel lt1) trodAll_mk0)), rfl, bel.frame _, fun h => by cases h⟩

theorem named : Try.pinned.checked.prog.funcNamed Rows.fnExactFormIsRow.func = some 5 := by kernel_rfl
theorem closed : joinedFacts Try.pinned.checked.prog 5 Try.f5 Rows.fnExactFormIsSpec Rows.fnExactFormIsRow = true := by kernel_rfl
theorem plain : Try.f5.isInstance Try.pinned.checked.prog Rows.fnExactFormIsRow.origin Rows.fnExactFormIsRow.targs := of_decide_eq_true (by kernel_rfl)
theorem bare : Try.f5.isWrapper Try.pinned.checked.prog Rows.fnExactFormIsRow.wrapper Rows.fnExactFormIsRow.mainSum := by unfold Func.isWrapper; first | (rw [if_pos (by decide +kernel)]; kernel_rfl) | (rw [if_neg (by decide +kernel)]; exact ⟨rfl, rfl⟩)
theorem over : Rows.fnExactFormIsRow.holds Try.pinned (OpenSpec.ofChange Rows.fnExactFormIsSpec) :=
  OpenClaim.holds_of_wide 5 Try.f5 rfl rfl rfl rfl rfl rfl rfl ⟨rfl, rfl, rfl, rfl, rfl⟩ rfl rfl rfl rfl rfl named Try.func5 closed plain bare
    (fun os started H enc _ => lifted os started H enc)

theorem proved : Rows.FnExactFormIsSaid := over
end Go.Proofs.Ytlcfophhjflpdaa.fnExactFormIs
