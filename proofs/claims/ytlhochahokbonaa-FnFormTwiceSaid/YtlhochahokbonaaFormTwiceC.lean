/- For all bytes that come in, the law FnFormTwice returns true and leaves its arguments as they were; there is no condition. -/
import Derived.Test.YtlhochahokbonaaPa46
import Derived.Test.YtlhochahokbonaaPa48
import Derived.Test.YtlhochahokbonaaPa47
import Derived.Test.YtlhochahokbonaaRows
import Derived.WalkKit
import Derived.ProofKit
import Derived.OpenShut
import Derived.ShutString
import Derived.ChangeOld
import Derived.Below
import Derived.Test.YtlhochahokbonaaPa4
namespace Go.Proofs.Ytlhochahokbonaa
open Go Go.RowKit
set_option linter.unusedVariables false
set_option linter.unusedSimpArgs false
set_option maxRecDepth 100000 in
set_option maxHeartbeats 8000000 in
theorem formTwiceL_walk (v : Value) (w : World) (hv : Byts w v) :
    Calls Try.prog 6 #[v] w fun e w' => e = .returned (.bool true) ∧ Below w.heap.size w w' := by
  have hv0 := hv
  obtain ⟨a, n, cap, rfl, hn1, hn2, _⟩ := hv
  by_cases hlen : n ≤ 1048576
  rotate_left
  · have hlb : decide ((1048576 : Int) < (n : Int)) = true := by simp; omega
    go_enter Try.func6, Try.ntmps6
    go_wp2_with fail
    go_ret
    exact ⟨rfl, Below.refl _ _⟩
  have hlb : decide ((1048576 : Int) < (n : Int)) = false := by simp; omega
  go_enter Try.func6, Try.ntmps6
  go_wp2_with fail
  refine (drawFormIs_any _ _ hv0).mono ?_
  rintro e w1 ⟨⟨f, bs, b3, d3, b5, d5, b6, d6, b7, d7, b11, d11, bv, ff, g, hwf, rfl, hrf, hbv⟩, hB⟩
  obtain ⟨va, vc, rfl, _, _⟩ := rd_sl_inv hbv
  go_upto_region 4 with fail
  have hX := Box.new w1 [.int .i64 f.kind, .int .i64 f.lit.atom.kind, .string f.lit.atom.a.name, .slice b3 f.lit.atom.a.kids.length d3, .string f.lit.atom.b.name, .slice b5 f.lit.atom.b.kids.length d5, .slice b6 f.lit.atom.nums.length d6, .slice b7 f.lit.atom.times.length d7, .int .i64 f.lit.atom.bound, .bool f.lit.atom.strict, .bool f.lit.no, .slice b11 f.kids.length d11] 43
  obtain ⟨F, hF⟩ : ∃ F, F = w1.heap.size := ⟨_, rfl⟩
  rw [← hF] at hX ⊢
  clear hF
  have hba := below_alloc w1 (.cells #[.int .i64 f.kind, .int .i64 f.lit.atom.kind, .string f.lit.atom.a.name, .slice b3 f.lit.atom.a.kids.length d3, .string f.lit.atom.b.name, .slice b5 f.lit.atom.b.kids.length d5, .slice b6 f.lit.atom.nums.length d6, .slice b7 f.lit.atom.times.length d7, .int .i64 f.lit.atom.bound, .bool f.lit.atom.strict, .bool f.lit.no, .slice b11 f.kids.length d11] 43)
  replace hrf := hrf.below hba
  replace hbv := hbv.below hba
  replace hB := hB.trans (hba.mono hB.size)
  clear hba
  generalize w1.alloc (.cells #[.int .i64 f.kind, .int .i64 f.lit.atom.kind, .string f.lit.atom.a.name, .slice b3 f.lit.atom.a.kids.length d3, .string f.lit.atom.b.name, .slice b5 f.lit.atom.b.kids.length d5, .slice b6 f.lit.atom.nums.length d6, .slice b7 f.lit.atom.times.length d7, .int .i64 f.lit.atom.bound, .bool f.lit.atom.strict, .bool f.lit.no, .slice b11 f.kids.length d11] 43) = W at *
  obtain ⟨so, ok, HI⟩ : ∃ a b, Hid (isF f bs = (a, b)) := ⟨_, _, Lib.hid rfl⟩
  have q0 := hX.2.1 0 _ rfl
  have q1 := hX.2.1 1 _ rfl
  have q2 := hX.2.1 2 _ rfl
  have q3 := hX.2.1 3 _ rfl
  have q4 := hX.2.1 4 _ rfl
  have q5 := hX.2.1 5 _ rfl
  have q6 := hX.2.1 6 _ rfl
  have q7 := hX.2.1 7 _ rfl
  have q8 := hX.2.1 8 _ rfl
  have q9 := hX.2.1 9 _ rfl
  have q10 := hX.2.1 10 _ rfl
  have q11 := hX.2.1 11 _ rfl
  go_wp2_with fail
  refine (formIs_any f bs _ _ _ _ _ (by omega) (by exact hrf) (by exact hbv) so ok HI.out).mono ?_
  rintro e w2 ⟨rfl, hb2⟩
  replace hX := hX.below hb2
  replace hrf := hrf.below hb2
  replace hbv := hbv.below hb2
  replace hB := hB.trans (hb2.mono hB.size)
  clear hb2 q0 q1 q2 q3 q4 q5 q6 q7 q8 q9 q10 q11
  have q0 := hX.2.1 0 _ rfl
  have q1 := hX.2.1 1 _ rfl
  have q2 := hX.2.1 2 _ rfl
  have q3 := hX.2.1 3 _ rfl
  have q4 := hX.2.1 4 _ rfl
  have q5 := hX.2.1 5 _ rfl
  have q6 := hX.2.1 6 _ rfl
  have q7 := hX.2.1 7 _ rfl
  have q8 := hX.2.1 8 _ rfl
  have q9 := hX.2.1 9 _ rfl
  have q10 := hX.2.1 10 _ rfl
  have q11 := hX.2.1 11 _ rfl
  go_wp2_with fail
  refine (formIsS_any f bs _ _ _ _ _ (by omega) (by exact hrf) (by exact hbv) so ok HI.out).mono ?_
  rintro e w3 ⟨rfl, hb3⟩
  replace hX := hX.below hb3
  replace hrf := hrf.below hb3
  replace hbv := hbv.below hb3
  replace hB := hB.trans (hb3.mono hB.size)
  clear hb3 q0 q1 q2 q3 q4 q5 q6 q7 q8 q9 q10 q11
  have hs1 : (so != so) = false := by cases so <;> rfl
  have hs2 : (so == so) = true := by cases so <;> rfl
  have ho1 : (ok != ok) = false := by cases ok <;> rfl
  have ho2 : (ok == ok) = true := by cases ok <;> rfl
  cases ok
  · go_wp2_with fail
    go_ret
    exact ⟨rfl, hB⟩
  · have q0 := hX.2.1 0 _ rfl
    have q1 := hX.2.1 1 _ rfl
    have q2 := hX.2.1 2 _ rfl
    have q3 := hX.2.1 3 _ rfl
    have q4 := hX.2.1 4 _ rfl
    have q5 := hX.2.1 5 _ rfl
    have q6 := hX.2.1 6 _ rfl
    have q7 := hX.2.1 7 _ rfl
    have q8 := hX.2.1 8 _ rfl
    have q9 := hX.2.1 9 _ rfl
    have q10 := hX.2.1 10 _ rfl
    have q11 := hX.2.1 11 _ rfl
    go_upto_region 9 with fail
    obtain ⟨ka, hka⟩ : ∃ q, q = w3.heap.size := ⟨_, rfl⟩
    obtain ⟨xa, hxa⟩ : ∃ q, q = ka + 1 := ⟨_, rfl⟩
    have hra := kids1 hrf 43
    have hXa := Box.new (w3.alloc (.cells #[.int .i64 f.kind, .int .i64 f.lit.atom.kind, .string f.lit.atom.a.name, .slice b3 f.lit.atom.a.kids.length d3, .string f.lit.atom.b.name, .slice b5 f.lit.atom.b.kids.length d5, .slice b6 f.lit.atom.nums.length d6, .slice b7 f.lit.atom.times.length d7, .int .i64 f.lit.atom.bound, .bool f.lit.atom.strict, .bool f.lit.no, .slice b11 f.kids.length d11] 43)) [.int .i64 2, .int .i64 0, .string ⟨#[]⟩, .slice none 0 0, .string ⟨#[]⟩, .slice none 0 0, .slice none 0 0, .slice none 0 0, .int .i64 0, .bool false, .bool false, .slice (some ⟨w3.heap.size, 0, none⟩) 1 1] 43
    rw [World.size_alloc] at hXa
    rw [← hka, ← hxa] at hXa
    rw [← hka] at hra
    rw [← hka]
    try rw [← hxa]
    have hba : Below w3.heap.size w3 ((w3.alloc (.cells #[.int .i64 f.kind, .int .i64 f.lit.atom.kind, .string f.lit.atom.a.name, .slice b3 f.lit.atom.a.kids.length d3, .string f.lit.atom.b.name, .slice b5 f.lit.atom.b.kids.length d5, .slice b6 f.lit.atom.nums.length d6, .slice b7 f.lit.atom.times.length d7, .int .i64 f.lit.atom.bound, .bool f.lit.atom.strict, .bool f.lit.no, .slice b11 f.kids.length d11] 43)).alloc (.cells #[.int .i64 2, .int .i64 0, .string ⟨#[]⟩, .slice none 0 0, .string ⟨#[]⟩, .slice none 0 0, .slice none 0 0, .slice none 0 0, .int .i64 0, .bool false, .bool false, .slice (some ⟨ka, 0, none⟩) 1 1] 43)) := ((Below.refl _ _).alloc (Nat.le_refl _) _).alloc (by simp) _
    have hfa := (fm_mk (k := 2) (by unfold I64; simp) hra).below (below_alloc _ (.cells #[.int .i64 2, .int .i64 0, .string ⟨#[]⟩, .slice none 0 0, .string ⟨#[]⟩, .slice none 0 0, .slice none 0 0, .slice none 0 0, .int .i64 0, .bool false, .bool false, .slice (some ⟨ka, 0, none⟩) 1 1] 43))
    replace hX := hX.below hba
    replace hrf := hrf.below hba
    replace hbv := hbv.below hba
    replace hB := hB.trans (hba.mono hB.size)
    clear hba hka hxa hra q0 q1 q2 q3 q4 q5 q6 q7 q8 q9 q10 q11
    generalize (w3.alloc (.cells #[.int .i64 f.kind, .int .i64 f.lit.atom.kind, .string f.lit.atom.a.name, .slice b3 f.lit.atom.a.kids.length d3, .string f.lit.atom.b.name, .slice b5 f.lit.atom.b.kids.length d5, .slice b6 f.lit.atom.nums.length d6, .slice b7 f.lit.atom.times.length d7, .int .i64 f.lit.atom.bound, .bool f.lit.atom.strict, .bool f.lit.no, .slice b11 f.kids.length d11] 43)).alloc (.cells #[.int .i64 2, .int .i64 0, .string ⟨#[]⟩, .slice none 0 0, .string ⟨#[]⟩, .slice none 0 0, .slice none 0 0, .slice none 0 0, .int .i64 0, .bool false, .bool false, .slice (some ⟨ka, 0, none⟩) 1 1] 43) = w4 at *
    have q0 := hXa.2.1 0 _ rfl
    have q1 := hXa.2.1 1 _ rfl
    have q2 := hXa.2.1 2 _ rfl
    have q3 := hXa.2.1 3 _ rfl
    have q4 := hXa.2.1 4 _ rfl
    have q5 := hXa.2.1 5 _ rfl
    have q6 := hXa.2.1 6 _ rfl
    have q7 := hXa.2.1 7 _ rfl
    have q8 := hXa.2.1 8 _ rfl
    have q9 := hXa.2.1 9 _ rfl
    have q10 := hXa.2.1 10 _ rfl
    have q11 := hXa.2.1 11 _ rfl
    go_upto_region 10 with fail
    obtain ⟨kb, hkb⟩ : ∃ q, q = w4.heap.size := ⟨_, rfl⟩
    obtain ⟨xb, hxb⟩ : ∃ q, q = kb + 1 := ⟨_, rfl⟩
    have hrb := kids1 hfa 43
    have hXb := Box.new (w4.alloc (.cells #[.int .i64 2, .int .i64 0, .string ⟨#[]⟩, .slice none 0 0, .string ⟨#[]⟩, .slice none 0 0, .slice none 0 0, .slice none 0 0, .int .i64 0, .bool false, .bool false, .slice (some ⟨ka, 0, none⟩) 1 1] 43)) [.int .i64 2, .int .i64 0, .string ⟨#[]⟩, .slice none 0 0, .string ⟨#[]⟩, .slice none 0 0, .slice none 0 0, .slice none 0 0, .int .i64 0, .bool false, .bool false, .slice (some ⟨w4.heap.size, 0, none⟩) 1 1] 43
    rw [World.size_alloc] at hXb
    rw [← hkb, ← hxb] at hXb
    rw [← hkb] at hrb
    rw [← hkb]
    try rw [← hxb]
    have hba : Below w4.heap.size w4 ((w4.alloc (.cells #[.int .i64 2, .int .i64 0, .string ⟨#[]⟩, .slice none 0 0, .string ⟨#[]⟩, .slice none 0 0, .slice none 0 0, .slice none 0 0, .int .i64 0, .bool false, .bool false, .slice (some ⟨ka, 0, none⟩) 1 1] 43)).alloc (.cells #[.int .i64 2, .int .i64 0, .string ⟨#[]⟩, .slice none 0 0, .string ⟨#[]⟩, .slice none 0 0, .slice none 0 0, .slice none 0 0, .int .i64 0, .bool false, .bool false, .slice (some ⟨kb, 0, none⟩) 1 1] 43)) := ((Below.refl _ _).alloc (Nat.le_refl _) _).alloc (by simp) _
    have hfb := (fm_mk (k := 2) (by unfold I64; simp) hrb).below (below_alloc _ (.cells #[.int .i64 2, .int .i64 0, .string ⟨#[]⟩, .slice none 0 0, .string ⟨#[]⟩, .slice none 0 0, .slice none 0 0, .slice none 0 0, .int .i64 0, .bool false, .bool false, .slice (some ⟨kb, 0, none⟩) 1 1] 43))
    replace hbv := hbv.below hba
    replace hB := hB.trans (hba.mono hB.size)
    clear hba hkb hxb hrb q0 q1 q2 q3 q4 q5 q6 q7 q8 q9 q10 q11
    generalize (w4.alloc (.cells #[.int .i64 2, .int .i64 0, .string ⟨#[]⟩, .slice none 0 0, .string ⟨#[]⟩, .slice none 0 0, .slice none 0 0, .slice none 0 0, .int .i64 0, .bool false, .bool false, .slice (some ⟨ka, 0, none⟩) 1 1] 43)).alloc (.cells #[.int .i64 2, .int .i64 0, .string ⟨#[]⟩, .slice none 0 0, .string ⟨#[]⟩, .slice none 0 0, .slice none 0 0, .slice none 0 0, .int .i64 0, .bool false, .bool false, .slice (some ⟨kb, 0, none⟩) 1 1] 43) = w5 at *
    have q0 := hXb.2.1 0 _ rfl
    have q1 := hXb.2.1 1 _ rfl
    have q2 := hXb.2.1 2 _ rfl
    have q3 := hXb.2.1 3 _ rfl
    have q4 := hXb.2.1 4 _ rfl
    have q5 := hXb.2.1 5 _ rfl
    have q6 := hXb.2.1 6 _ rfl
    have q7 := hXb.2.1 7 _ rfl
    have q8 := hXb.2.1 8 _ rfl
    have q9 := hXb.2.1 9 _ rfl
    have q10 := hXb.2.1 10 _ rfl
    have q11 := hXb.2.1 11 _ rfl
    obtain ⟨t, p, HT⟩ : ∃ a b, Hid (isF (notF (notF f)) bs = (a, b)) := ⟨_, _, Lib.hid rfl⟩
    have hw1 := not_wt f; have hw2 := not_wt (notF f)
    go_wp2_with fail
    refine (formIs_any (notF (notF f)) bs _ _ _ _ _ (by omega) (by exact hfb) (by exact hbv) t p HT.out).mono ?_
    rintro e w6 ⟨rfl, hb6⟩
    replace hB := hB.trans (hb6.mono hB.size)
    clear hb6 hw1 hw2
    cases p
    · go_wp2_with fail
      go_ret
      exact ⟨rfl, hB⟩
    · obtain rfl := twice_law HI.out HT.out
      go_wp2_with fail
      go_ret
      exact ⟨rfl, hB⟩
end Go.Proofs.Ytlhochahokbonaa
namespace Go.Proofs.Ytlhochahokbonaa.fnFormTwice
open Go Go.ChangeShapes Go.WideShapes Go.ChangeAt Go.RowKit
set_option linter.unusedVariables false
theorem own : ownKnob Try.prog.godebug = none := by kernel_rfl
theorem laidOut : laidOutB Try.prog = true := by kernel_rfl
set_option maxRecDepth 100000 in
theorem lifted (os : Os) (started : os.Started) (H : Type) (enc : TypeId × Value → H) :
    ReturnsInHanded {} Try.checked os 6 .any (Rows.fnFormTwiceSpec.pre6 enc Try.prog Try.f6 Rows.fnFormTwiceRow.domain false) (Rows.fnFormTwiceSpec.post enc Try.prog Try.f6 false true false false) := by
  refine returnsInHanded_of_change (C := Try.checked) own started (by kernel_rfl) Try.func6
    (ChangeSpec.witness6 (enc := enc) (C := Try.checked) false ⟨#[], #[.slice none 0 0], []⟩ 8 (by kernel_rfl) (by kernel_rfl) (by kernel_rfl) (by kernel_rfl)) ?_
  intro W base args ds gs before hval0 hW hcnd _
  have hval : ∀ (j : Nat) t v, Try.f6.params[j]? = some t → args[j]? = some v → Value.okWide Try.prog W .any base t v := hval0
  have hW' := hW
  obtain ⟨p, q, hA0, hV, rfl, hfz, hnd⟩ := hW
  have hA : DataW.TrodAll enc Try.prog W 0 (fun _ => true) true Try.f6.params.toList args.toList ds p := hA0
  rw [Try.params6] at hA hval
  obtain ⟨v0, vs0, d0, ds0, p0, q0, hargs, rfl, rfl, h0, r0⟩ := trodAll_cons hA
  obtain ⟨rfl, rfl, rfl⟩ := trodAll_nil r0
  obtain rfl : args = #[v0] := by cases args; simp_all
  obtain ⟨rfl, rfl⟩ := trodVars_none hV
  obtain ⟨a0, len0, cap0, rfl⟩ := okWide_slice Try.underlying22 (hval 0 22 v0 rfl rfl)
  have k0 := h0
  have lt0 : ∀ x ∈ p0, x.block < W.heap.size := by obtain ⟨m, hm⟩ := k0; exact DataW.trod_lt m _ _ _ hm
  have hr0 : Byts W (.slice a0 len0 cap0) := by
    obtain ⟨fuel, hf⟩ := h0
    obtain ⟨v, hv, hr⟩ := open_Byts fuel _ _ hf
    exact list1 hv ▸ hr
  clear hA0 hval0
  have hwalk := formTwiceL_walk _ W hr0
  refine hwalk.mono fun e W' ⟨he, bel⟩ => ?_
  subst he
  exact ⟨_, rfl, _, _, _, [], _, [], hW', trodAll_mk1 (shut_bool Try.underlying4 _), (trodAll_cons_mk (Below.trod laidOut (by kernel_rfl) (of_decide_eq_true (by kernel_rfl)) k0 bel lt0) trodAll_mk0), rfl, bel.frame _, fun h => by cases h⟩
theorem named : Try.pinned.checked.prog.funcNamed Rows.fnFormTwiceRow.func = some 6 := by kernel_rfl
theorem and2 {a b : Bool} (h : a = true) (h' : b = true) : (a && b) = true := by rw [h, h']; rfl
set_option maxHeartbeats 8000000 in
theorem closed : joinedFacts Try.pinned.checked.prog 6 Try.f6 Rows.fnFormTwiceSpec Rows.fnFormTwiceRow = true := by
  unfold joinedFacts
  repeat' (with_reducible refine and2 ?_ ?_)
  all_goals (as_aux_lemma => kernel_rfl)
theorem plain : Try.f6.isInstance Try.pinned.checked.prog Rows.fnFormTwiceRow.origin Rows.fnFormTwiceRow.targs := of_decide_eq_true (by kernel_rfl)
theorem bare : Try.f6.isWrapper Try.pinned.checked.prog Rows.fnFormTwiceRow.wrapper Rows.fnFormTwiceRow.mainSum := by unfold Func.isWrapper; first | (rw [if_pos (by decide +kernel)]; kernel_rfl) | (rw [if_neg (by decide +kernel)]; exact ⟨rfl, rfl⟩)
theorem over : Rows.fnFormTwiceRow.holds Try.pinned (OpenSpec.ofChange Rows.fnFormTwiceSpec) :=
  OpenClaim.holds_of_wide 6 Try.f6 rfl rfl rfl rfl rfl rfl rfl ⟨rfl, rfl, rfl, rfl, rfl⟩ rfl rfl rfl rfl rfl named Try.func6 closed plain bare
    (fun os started H enc _ => lifted os started H enc)
theorem proved : Rows.FnFormTwiceSaid := over
end Go.Proofs.Ytlhochahokbonaa.fnFormTwice
