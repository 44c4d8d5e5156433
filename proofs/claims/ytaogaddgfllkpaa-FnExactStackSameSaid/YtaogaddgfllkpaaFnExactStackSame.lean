/- For every argument that can be read, the exact law of StackSame returns true and leaves its arguments as they were; there is no condition. -/
import Derived.Test.YtaogaddgfllkpaaRows
import Derived.WalkKit
import Derived.ProofKit
import Derived.OpenShut
import Derived.ShutString
import Derived.ChangeOld
import Derived.Below
import Derived.Test.YtaogaddgfllkpaaOpenAll
import Derived.Test.YtaogaddgfllkpaaLawStackSame
namespace Go.Proofs.Ytaogaddgfllkpaa.fnExactStackSame
open Go Go.ChangeShapes Go.WideShapes Go.ChangeAt Go.RowKit
set_option linter.unusedVariables false

theorem own : ownKnob Try.prog.godebug = none := by kernel_rfl
theorem laidOut : laidOutB Try.prog = true := by kernel_rfl

set_option maxRecDepth 100000 in
theorem lifted (os : Os) (started : os.Started) (H : Type) (enc : TypeId × Value → H) :
    ReturnsInHanded {} Try.checked os 6 .any (Rows.fnExactStackSameSpec.pre6 enc Try.prog Try.f6 Rows.fnExactStackSameRow.domain false) (Rows.fnExactStackSameSpec.post enc Try.prog Try.f6 false true false false) := by
  refine returnsInHanded_of_change (C := Try.checked) own started (by kernel_rfl) Try.func6
    (ChangeSpec.witness6 (enc := enc) (C := Try.checked) false ⟨#[], #[.agg #[.slice none 0 0, .slice none 0 0], .agg #[.slice none 0 0, .slice none 0 0]], []⟩ 8 (by kernel_rfl) (by kernel_rfl) (by kernel_rfl) (by kernel_rfl)) ?_
  intro W base args ds gs before hval0 hW hcnd _
  have hval : ∀ (j : Nat) t v, Try.f6.params[j]? = some t → args[j]? = some v → Value.okWide Try.prog W .any base t v := hval0
  have hW' := hW
  obtain ⟨p, q, hA0, hV, rfl, hfz, hnd⟩ := hW
  have hA : DataW.TrodAll enc Try.prog W 0 (fun _ => true) true Try.f6.params.toList args.toList ds p := hA0
  rw [Try.params6] at hA hval
  obtain ⟨v0, vs0, d0, ds0, p0, q0, hargs, rfl, rfl, h0, r0⟩ := trodAll_cons hA
  obtain ⟨v1, vs1, d1, ds1, p1, q1, rfl, rfl, rfl, h1, r1⟩ := trodAll_cons r0
  obtain ⟨rfl, rfl, rfl⟩ := trodAll_nil r1
  obtain rfl : args = #[v0, v1] := by cases args; simp_all
  obtain ⟨rfl, rfl⟩ := trodVars_none hV
  obtain ⟨cs0, rfl, hz0⟩ := okWide_struct Try.underlying72 (hval 0 72 v0 rfl rfl)
  obtain ⟨cs1, rfl, hz1⟩ := okWide_struct Try.underlying72 (hval 1 72 v1 rfl rfl)
  have k0 := h0
  have lt0 : ∀ x ∈ p0, x.block < W.heap.size := by obtain ⟨m, hm⟩ := k0; exact DataW.trod_lt m _ _ _ hm
  obtain ⟨x0, f0, hr0⟩ : ∃ (x : Stk) (f : List Nat), RdVs W x.cd cs0.toList f := by
    obtain ⟨fuel, hf⟩ := h0
    obtain ⟨x, fp, hr⟩ := open_Stk fuel _ _ hf
    exact ⟨x, fp, hr⟩
  have k1 := h1
  have lt1 : ∀ x ∈ p1, x.block < W.heap.size := by obtain ⟨m, hm⟩ := k1; exact DataW.trod_lt m _ _ _ hm
  obtain ⟨x1, f1, hr1⟩ : ∃ (x : Stk) (f : List Nat), RdVs W x.cd cs1.toList f := by
    obtain ⟨fuel, hf⟩ := h1
    obtain ⟨x, fp, hr⟩ := open_Stk fuel _ _ hf
    exact ⟨x, fp, hr⟩
  clear hA0 hval0
  have hwalk := exStackSame_walk x0 cs0.toList f0 x1 cs1.toList f1 W hr0 hr1
  simp only [Array.toArray_toList] at hwalk
  refine hwalk.mono fun e W' ⟨he, bel⟩ => ?_
  subst he
  exact ⟨_, rfl, _, _, _, [], _, [], hW', trodAll_mk1 (shut_bool Try.underlying4 _), (trodAll_cons_mk (Below.trod laidOut (by kernel_rfl) (of_decide_eq_true (by kernel_rfl)) k0 bel lt0) (trodAll_cons_mk (Below.trod laidOut (by kernel_rfl) (of_decide_eq_true (by kernel_rfl)) k1 bel lt1) trodAll_mk0)), rfl, bel.frame _, fun h => by cases h⟩

theorem named : Try.pinned.checked.prog.funcNamed Rows.fnExactStackSameRow.func = some 6 := by kernel_rfl
theorem closed : joinedFacts Try.pinned.checked.prog 6 Try.f6 Rows.fnExactStackSameSpec Rows.fnExactStackSameRow = true := by kernel_rfl
theorem plain : Try.f6.isInstance Try.pinned.checked.prog Rows.fnExactStackSameRow.origin Rows.fnExactStackSameRow.targs := of_decide_eq_true (by kernel_rfl)
theorem bare : Try.f6.isWrapper Try.pinned.checked.prog Rows.fnExactStackSameRow.wrapper Rows.fnExactStackSameRow.mainSum := by unfold Func.isWrapper; first | (rw [if_pos (by decide +kernel)]; kernel_rfl) | (rw [if_neg (by decide +kernel)]; exact ⟨rfl, rfl⟩)
theorem over : Rows.fnExactStackSameRow.holds Try.pinned (OpenSpec.ofChange Rows.fnExactStackSameSpec) :=
  OpenClaim.holds_of_wide 6 Try.f6 rfl rfl rfl rfl rfl rfl rfl ⟨rfl, rfl, rfl, rfl, rfl⟩ rfl rfl rfl rfl rfl named Try.func6 closed plain bare
    (fun os started H enc _ => lifted os started H enc)

theorem proved : Rows.FnExactStackSameSaid := over
end Go.Proofs.Ytaogaddgfllkpaa.fnExactStackSame
