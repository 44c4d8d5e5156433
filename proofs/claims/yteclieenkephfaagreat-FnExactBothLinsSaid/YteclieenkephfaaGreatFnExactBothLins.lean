/- For every argument that can be read, the exact law of BothLins returns true and leaves its arguments as they were; there is no condition. -/
import Derived.Test.YteclieenkephfaaGreatRows
import Derived.WalkKit
import Derived.ProofKit
import Derived.OpenShut
import Derived.ShutString
import Derived.ChangeOld
import Derived.Below
import Derived.Test.YteclieenkephfaaGreatOpenAll
import Derived.Test.YteclieenkephfaaGreatLawBothLins
namespace Go.Proofs.YteclieenkephfaaGreat.fnExactBothLins
open Go Go.ChangeShapes Go.WideShapes Go.ChangeAt Go.RowKit
set_option linter.unusedVariables false

theorem own : ownKnob Tryz.prog.godebug = none := by kernel_rfl
theorem laidOut : laidOutB Tryz.prog = true := by kernel_rfl

set_option maxRecDepth 100000 in
theorem lifted (os : Os) (started : os.Started) (H : Type) (enc : TypeId × Value → H) :
    ReturnsInHanded {} Tryz.checked os 3 .any (Rows.fnExactBothLinsSpec.pre6 enc Tryz.prog Tryz.f3 Rows.fnExactBothLinsRow.domain false) (Rows.fnExactBothLinsSpec.post enc Tryz.prog Tryz.f3 false true false false) := by
  refine returnsInHanded_of_change (C := Tryz.checked) own started (by kernel_rfl) Tryz.func3
    (ChangeSpec.witness6 (enc := enc) (C := Tryz.checked) false ⟨#[], #[.agg #[.slice none 0 0], .slice none 0 0], []⟩ 8 (by kernel_rfl) (by kernel_rfl) (by kernel_rfl) (by kernel_rfl)) ?_
  intro W base args ds gs before hval0 hW hcnd _
  have hval : ∀ (j : Nat) t v, Tryz.f3.params[j]? = some t → args[j]? = some v → Value.okWide Tryz.prog W .any base t v := hval0
  have hW' := hW
  obtain ⟨p, q, hA0, hV, rfl, hfz, hnd⟩ := hW
  have hA : DataW.TrodAll enc Tryz.prog W 0 (fun _ => true) true Tryz.f3.params.toList args.toList ds p := hA0
  rw [Tryz.params3] at hA hval
  obtain ⟨v0, vs0, d0, ds0, p0, q0, hargs, rfl, rfl, h0, r0⟩ := trodAll_cons hA
  obtain ⟨v1, vs1, d1, ds1, p1, q1, rfl, rfl, rfl, h1, r1⟩ := trodAll_cons r0
  obtain ⟨rfl, rfl, rfl⟩ := trodAll_nil r1
  obtain rfl : args = #[v0, v1] := by cases args; simp_all
  obtain ⟨rfl, rfl⟩ := trodVars_none hV
  obtain ⟨cs0, rfl, hz0⟩ := okWide_struct Tryz.underlying24 (hval 0 24 v0 rfl rfl)
  obtain ⟨a1, len1, cap1, rfl⟩ := okWide_slice Tryz.underlying25 (hval 1 25 v1 rfl rfl)
  have k0 := h0
  have lt0 : ∀ x ∈ p0, x.block < W.heap.size := by obtain ⟨m, hm⟩ := k0; exact DataW.trod_lt m _ _ _ hm
  obtain ⟨x0, f0, hr0⟩ : ∃ (x : Sg) (f : List Nat), RdVs W x.cd cs0.toList f := by
    obtain ⟨fuel, hf⟩ := h0
    obtain ⟨x, fp, hr⟩ := open_Sg fuel _ _ hf
    exact ⟨x, fp, hr⟩
  have k1 := h1
  have lt1 : ∀ x ∈ p1, x.block < W.heap.size := by obtain ⟨m, hm⟩ := k1; exact DataW.trod_lt m _ _ _ hm
  obtain ⟨x1, f1, hr1⟩ : ∃ (x : List Lt) (f : List Nat), Rd W (.sl (x.map Lt.cd)) (.slice a1 len1 cap1) f := by
    obtain ⟨fuel, hf⟩ := h1
    obtain ⟨x, v, fp, hv, hr⟩ := open_Lts fuel _ _ hf
    exact ⟨x, fp, list1 hv ▸ hr⟩
  clear hA0 hval0
  have hwalk := exBothLins_walk x0 cs0.toList f0 x1 _ f1 W hr0 hr1
  simp only [Array.toArray_toList] at hwalk
  refine hwalk.mono fun e W' ⟨he, bel⟩ => ?_
  subst he
  exact ⟨_, rfl, _, _, _, [], _, [], hW', trodAll_mk1 (shut_bool Tryz.underlying4 _), (trodAll_cons_mk (Below.trod laidOut (by kernel_rfl) (of_decide_eq_true (by kernel_rfl)) k0 bel lt0) (trodAll_cons_mk (Below.trod laidOut (by kernel_rfl) (of_decide_eq_true (by kernel_rfl)) k1 bel lt1) trodAll_mk0)), rfl, bel.frame _, fun h => by cases h⟩

theorem named : Tryz.pinned.checked.prog.funcNamed Rows.fnExactBothLinsRow.func = some 3 := by kernel_rfl
theorem and2 {a b : Bool} (h : a = true) (h' : b = true) : (a && b) = true := by rw [h, h']; rfl
set_option maxHeartbeats 8000000 in
theorem closed : joinedFacts Tryz.pinned.checked.prog 3 Tryz.f3 Rows.fnExactBothLinsSpec Rows.fnExactBothLinsRow = true := by
  unfold joinedFacts
  repeat' (with_reducible refine and2 ?_ ?_)
  all_goals (as_aux_lemma => kernel_rfl)
theorem plain : Tryz.f3.isInstance Tryz.pinned.checked.prog Rows.fnExactBothLinsRow.origin Rows.fnExactBothLinsRow.targs := of_decide_eq_true (by kernel_rfl)
theorem bare : Tryz.f3.isWrapper Tryz.pinned.checked.prog Rows.fnExactBothLinsRow.wrapper Rows.fnExactBothLinsRow.mainSum := by unfold Func.isWrapper; first | (rw [if_pos (by decide +kernel)]; kernel_rfl) | (rw [if_neg (by decide +kernel)]; exact ⟨rfl, rfl⟩)
theorem over : Rows.fnExactBothLinsRow.holds Tryz.pinned (OpenSpec.ofChange Rows.fnExactBothLinsSpec) :=
  OpenClaim.holds_of_wide 3 Tryz.f3 rfl rfl rfl rfl rfl rfl rfl ⟨rfl, rfl, rfl, rfl, rfl⟩ rfl rfl rfl rfl rfl named Tryz.func3 closed plain bare
    (fun os started H enc _ => lifted os started H enc)

theorem proved : Rows.FnExactBothLinsSaid := over
end Go.Proofs.YteclieenkephfaaGreat.fnExactBothLins
