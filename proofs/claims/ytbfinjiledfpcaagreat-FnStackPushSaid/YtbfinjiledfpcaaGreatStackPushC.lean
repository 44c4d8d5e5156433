/- For all bytes that come in, the law FnStackPush returns true and leaves its arguments as they were; there is no condition. -/
import Derived.BigQuiet
import Derived.Test.YtbfinjiledfpcaaGreatPb43
import Derived.Test.YtbfinjiledfpcaaGreatPb44
import Derived.Test.YtbfinjiledfpcaaGreatRows
import Derived.WalkKit
import Derived.ProofKit
import Derived.OpenShut
import Derived.ShutString
import Derived.ChangeOld
import Derived.Below
import Derived.Test.YtbfinjiledfpcaaGreatPb29
section
namespace Go.Proofs.YtbfinjiledfpcaaGreat
open Go Go.RowKit
set_option linter.unusedVariables false
set_option linter.unusedSimpArgs false
set_option maxRecDepth 100000
set_option maxHeartbeats 16000000
theorem zcX (v : Value) (w : World) (hv : Byts w v) :
  Calls Tryz.prog 6 #[v] w fun e w' => e = .returned (.bool true) ∧ Below w.heap.size w w' := by
 have hv0 := hv
 obtain ⟨a9, n, cap, rfl, hn1, hn2, _⟩ := hv
 by_cases hlen : n ≤ 1048576
 rotate_left
 ·have hlb0 : decide ((1048576 : Int) < (n : Int)) = true := decide_eq_true (by omega)
  go_enter Tryz.func6, Tryz.ntmps6
  go_wp2_with fail
  go_ret
  exact ⟨rfl, Below.refl _ _⟩
 have hlb0 : decide ((1048576 : Int) < (n : Int)) = false := decide_eq_false (by omega)
 go_enter Tryz.func6, Tryz.ntmps6
 go_wp2_with fail
 refine (zb6 _ _ hv0).mono ?_
 rintro e w1 ⟨⟨K, ka, kc, kl, km, kf, hwt, rfl, hrk⟩, hB⟩
 obtain ⟨⟨P, b1⟩, hP⟩ : ∃ T, K.push = T := ⟨_, rfl⟩
 obtain ⟨⟨Q, b2⟩, hQ⟩ : ∃ T, K.pop = T := ⟨_, rfl⟩
 have HP := Lib.hid hP
 have HQ := Lib.hid hQ
 clear hP hQ
 obtain ⟨kB, kBe⟩ : ∃ S, S = w1.heap.size := ⟨_, rfl⟩
 have hK := Box.new w1 [.slice ka K.sig.syms.length kc, .slice kl K.levels.length km] 53
 rw [← kBe] at hK
 go_upto_region 4 with fail
 rw [← kBe]
 have hba := zd w1 (.cells #[.slice ka K.sig.syms.length kc, .slice kl K.levels.length km] 53)
 replace hrk := hrk.below hba
 replace hB := hB.trans (hba.mono hB.size)
 clear hba kBe 
 generalize w1.alloc (.cells #[.slice ka K.sig.syms.length kc, .slice kl K.levels.length km] 53) = w2 at *
 have kq0 := hK.2.1 0 _ rfl
 have kq1 := hK.2.1 1 _ rfl
 go_wp2_with fail
 refine (push_as K P b1 HP.out _ _ _ (by omega) (by exact hrk)).mono ?_
 rintro e w3 ⟨us, xf, rfl, hrx, hb⟩
 obtain ⟨xa, xc, _, xl, xm, _, rfl, _, _, _⟩ := Stk.open hrx
 replace hrk := hrk.below hb
 replace hK := hK.below hb
 replace hB := hB.trans (hb.mono hB.size)
 clear hb
 clear kq0 kq1
 obtain ⟨xB, xBe⟩ : ∃ S, S = w3.heap.size := ⟨_, rfl⟩
 have hX := Box.new w3 [.slice xa P.sig.syms.length xc, .slice xl P.levels.length xm] 53
 rw [← xBe] at hX
 go_upto_region 5 with fail
 rw [← xBe]
 have hba := zd w3 (.cells #[.slice xa P.sig.syms.length xc, .slice xl P.levels.length xm] 53)
 replace hrk := hrk.below hba
 replace hK := hK.below hba
 replace hrx := hrx.below hba
 replace hB := hB.trans (hba.mono hB.size)
 clear hba xBe 
 generalize w3.alloc (.cells #[.slice xa P.sig.syms.length xc, .slice xl P.levels.length xm] 53) = w4 at *
 have kq0 := hK.2.1 0 _ rfl
 have kq1 := hK.2.1 1 _ rfl
 go_wp2_with fail
 refine (pushS_as K P b1 HP.out _ _ _ (by omega) (by exact hrk)).mono ?_
 rintro e w5 ⟨us, yf, rfl, hry, hb⟩
 obtain ⟨ya, yc, _, yl, ym, _, rfl, _, _, _⟩ := Stk.open hry
 replace hrk := hrk.below hb
 replace hK := hK.below hb
 replace hrx := hrx.below hb
 replace hX := hX.below hb
 replace hB := hB.trans (hb.mono hB.size)
 clear hb
 clear kq0 kq1
 obtain ⟨yB, yBe⟩ : ∃ S, S = w5.heap.size := ⟨_, rfl⟩
 have hY := Box.new w5 [.slice ya P.sig.syms.length yc, .slice yl P.levels.length ym] 53
 rw [← yBe] at hY
 go_upto_region 6 with fail
 rw [← yBe]
 have hba := zd w5 (.cells #[.slice ya P.sig.syms.length yc, .slice yl P.levels.length ym] 53)
 replace hrk := hrk.below hba
 replace hK := hK.below hba
 replace hrx := hrx.below hba
 replace hX := hX.below hba
 replace hry := hry.below hba
 replace hB := hB.trans (hba.mono hB.size)
 clear hba yBe 
 generalize w5.alloc (.cells #[.slice ya P.sig.syms.length yc, .slice yl P.levels.length ym] 53) = w6 at *
 have kq0 := hK.2.1 0 _ rfl
 have kq1 := hK.2.1 1 _ rfl
 go_wp2_with fail
 refine (pop_as K Q b2 HQ.out _ _ _ (by omega) (by exact hrk)).mono ?_
 rintro e w7 ⟨us, zf, rfl, hrz, hb⟩
 obtain ⟨za, zc, _, zl, zm, _, rfl, _, _, _⟩ := Stk.open hrz
 replace hrk := hrk.below hb
 replace hK := hK.below hb
 replace hrx := hrx.below hb
 replace hX := hX.below hb
 replace hry := hry.below hb
 replace hY := hY.below hb
 replace hB := hB.trans (hb.mono hB.size)
 clear hb
 clear kq0 kq1
 obtain ⟨zB, zBe⟩ : ∃ S, S = w7.heap.size := ⟨_, rfl⟩
 have hZ := Box.new w7 [.slice za Q.sig.syms.length zc, .slice zl Q.levels.length zm] 53
 rw [← zBe] at hZ
 go_upto_region 7 with fail
 rw [← zBe]
 have hba := zd w7 (.cells #[.slice za Q.sig.syms.length zc, .slice zl Q.levels.length zm] 53)
 replace hrk := hrk.below hba
 replace hK := hK.below hba
 replace hrx := hrx.below hba
 replace hX := hX.below hba
 replace hry := hry.below hba
 replace hY := hY.below hba
 replace hrz := hrz.below hba
 replace hB := hB.trans (hba.mono hB.size)
 clear hba zBe 
 generalize w7.alloc (.cells #[.slice za Q.sig.syms.length zc, .slice zl Q.levels.length zm] 53) = w8 at *
 have kq0 := hK.2.1 0 _ rfl
 have kq1 := hK.2.1 1 _ rfl
 go_wp2_with fail
 refine (popS_as K Q b2 HQ.out _ _ _ (by omega) (by exact hrk)).mono ?_
 rintro e w9 ⟨us, uf, rfl, hru, hb⟩
 obtain ⟨ua, uc, _, ul, um, _, rfl, _, _, _⟩ := Stk.open hru
 replace hrk := hrk.below hb
 replace hK := hK.below hb
 replace hrx := hrx.below hb
 replace hX := hX.below hb
 replace hry := hry.below hb
 replace hY := hY.below hb
 replace hrz := hrz.below hb
 replace hZ := hZ.below hb
 replace hB := hB.trans (hb.mono hB.size)
 clear hb
 clear kq0 kq1
 obtain ⟨uB, uBe⟩ : ∃ S, S = w9.heap.size := ⟨_, rfl⟩
 have hU := Box.new w9 [.slice ua Q.sig.syms.length uc, .slice ul Q.levels.length um] 53
 rw [← uBe] at hU
 go_upto_region 8 with fail
 rw [← uBe]
 have hba := zd w9 (.cells #[.slice ua Q.sig.syms.length uc, .slice ul Q.levels.length um] 53)
 replace hrk := hrk.below hba
 replace hK := hK.below hba
 replace hrx := hrx.below hba
 replace hX := hX.below hba
 replace hry := hry.below hba
 replace hY := hY.below hba
 replace hrz := hrz.below hba
 replace hZ := hZ.below hba
 replace hru := hru.below hba
 replace hB := hB.trans (hba.mono hB.size)
 clear hba uBe 
 generalize w9.alloc (.cells #[.slice ua Q.sig.syms.length uc, .slice ul Q.levels.length um] 53) = w10 at *
 have n1 : (b1 != b1) = false := by cases b1 <;> rfl
 have n2 : (b2 != b2) = false := by cases b2 <;> rfl
 have i1 : (b1 == b1) = true := by cases b1 <;> rfl
 have i2 : (b2 == b2) = true := by cases b2 <;> rfl
 have xq0 := hX.2.1 0 _ rfl
 have xq1 := hX.2.1 1 _ rfl
 have yq0 := hY.2.1 0 _ rfl
 have yq1 := hY.2.1 1 _ rfl
 go_wp2_with fail
 refine (za3 P _ _ _ _ _ (by exact hrx) (by exact hry)).mono ?_
 rintro e v1 ⟨rfl, hb⟩
 replace hrk := hrk.below hb
 replace hK := hK.below hb
 replace hrx := hrx.below hb
 replace hX := hX.below hb
 replace hry := hry.below hb
 replace hY := hY.below hb
 replace hrz := hrz.below hb
 replace hZ := hZ.below hb
 replace hru := hru.below hb
 replace hU := hU.below hb
 replace hB := hB.trans (hb.mono hB.size)
 clear hb
 clear xq0 xq1 yq0 yq1
 have zq0 := hZ.2.1 0 _ rfl
 have zq1 := hZ.2.1 1 _ rfl
 have uq0 := hU.2.1 0 _ rfl
 have uq1 := hU.2.1 1 _ rfl
 go_wp2_with fail
 refine (za3 Q _ _ _ _ _ (by exact hrz) (by exact hru)).mono ?_
 rintro e v2 ⟨rfl, hb⟩
 replace hrk := hrk.below hb
 replace hK := hK.below hb
 replace hrx := hrx.below hb
 replace hX := hX.below hb
 replace hry := hry.below hb
 replace hY := hY.below hb
 replace hrz := hrz.below hb
 replace hZ := hZ.below hb
 replace hru := hru.below hb
 replace hU := hU.below hb
 replace hB := hB.trans (hb.mono hB.size)
 clear hb
 clear zq0 zq1 uq0 uq1
 have kq0 := hK.2.1 0 _ rfl
 have kq1 := hK.2.1 1 _ rfl
 go_wp2_with fail
 refine (zat K _ _ _ (by omega) (by exact hrk)).mono ?_
 rintro e v3 ⟨rfl, hb⟩
 replace hrk := hrk.below hb
 replace hK := hK.below hb
 replace hrx := hrx.below hb
 replace hX := hX.below hb
 replace hry := hry.below hb
 replace hY := hY.below hb
 replace hrz := hrz.below hb
 replace hZ := hZ.below hb
 replace hru := hru.below hb
 replace hU := hU.below hb
 replace hB := hB.trans (hb.mono hB.size)
 clear hb
 clear kq0 kq1
 cases hok : K.okK
 ·clear hok
  have xq0 := hX.2.1 0 _ rfl
  have xq1 := hX.2.1 1 _ rfl
  have yq0 := hY.2.1 0 _ rfl
  have yq1 := hY.2.1 1 _ rfl
  go_wp2_with fail
  refine (za3 P _ _ _ _ _ (by exact hrx) (by exact hry)).mono ?_
  rintro e v4 ⟨rfl, hb⟩
  replace hrk := hrk.below hb
  replace hK := hK.below hb
  replace hrx := hrx.below hb
  replace hX := hX.below hb
  replace hry := hry.below hb
  replace hY := hY.below hb
  replace hrz := hrz.below hb
  replace hZ := hZ.below hb
  replace hru := hru.below hb
  replace hU := hU.below hb
  replace hB := hB.trans (hb.mono hB.size)
  clear hb
  clear xq0 xq1 yq0 yq1
  have zq0 := hZ.2.1 0 _ rfl
  have zq1 := hZ.2.1 1 _ rfl
  have uq0 := hU.2.1 0 _ rfl
  have uq1 := hU.2.1 1 _ rfl
  go_wp2_with fail
  refine (za3 Q _ _ _ _ _ (by exact hrz) (by exact hru)).mono ?_
  rintro e v5 ⟨rfl, hb⟩
  replace hrk := hrk.below hb
  replace hK := hK.below hb
  replace hrx := hrx.below hb
  replace hX := hX.below hb
  replace hry := hry.below hb
  replace hY := hY.below hb
  replace hrz := hrz.below hb
  replace hZ := hZ.below hb
  replace hru := hru.below hb
  replace hU := hU.below hb
  replace hB := hB.trans (hb.mono hB.size)
  clear hb
  clear zq0 zq1 uq0 uq1
  go_wp2_with fail
  go_ret
  exact ⟨rfl, hB⟩
 ·obtain ⟨hb1, hp1⟩ := push_law HP.out hok
  obtain ⟨hb2, hp2⟩ := pop_law HQ.out hok
  clear hok n1 n2 i1 i2
  by_cases h4 : K.levels.length < 4
  ·have d4 : decide ((K.levels.length : Int) < 4) = true := decide_eq_true (by omega)
   obtain rfl : b1 = true := by rw [hb1]; simp [h4]
   by_cases h1 : 1 < K.levels.length
   ·have d1 : decide ((1 : Int) < (K.levels.length : Int)) = true := decide_eq_true (by omega)
    obtain rfl : b2 = true := by rw [hb2]; simp [h1]
    clear hb1 hb2 hp1 hp2
    have kq0 := hK.2.1 0 _ rfl
    have kq1 := hK.2.1 1 _ rfl
    go_wp2_with fail
    go_ret
    exact ⟨rfl, hB⟩
   ·have d1 : decide ((1 : Int) < (K.levels.length : Int)) = false := decide_eq_false (by omega)
    obtain rfl : b2 = false := by rw [hb2]; simp [h1]
    obtain rfl := hp2 rfl
    clear hb1 hb2 hp1 hp2
    have kq0 := hK.2.1 0 _ rfl
    have kq1 := hK.2.1 1 _ rfl
    have zq0 := hZ.2.1 0 _ rfl
    have zq1 := hZ.2.1 1 _ rfl
    go_wp2_with fail
    refine (za3 Q _ _ _ _ _ (by exact hrz) (by exact hrk)).mono ?_
    rintro e v4 ⟨rfl, hb⟩
    replace hB := hB.trans (hb.mono hB.size)
    go_wp2_with fail
    go_ret
    exact ⟨rfl, hB⟩
  ·have d4 : decide ((K.levels.length : Int) < 4) = false := decide_eq_false (by omega)
   obtain rfl : b1 = false := by rw [hb1]; simp [h4]
   obtain rfl := hp1 rfl
   have h1 : 1 < P.levels.length := by omega
   have d1 : decide ((1 : Int) < (P.levels.length : Int)) = true := decide_eq_true (by omega)
   obtain rfl : b2 = true := by rw [hb2]; simp [h1]
   clear hb1 hb2 hp1 hp2
   have kq0 := hK.2.1 0 _ rfl
   have kq1 := hK.2.1 1 _ rfl
   have xq0 := hX.2.1 0 _ rfl
   have xq1 := hX.2.1 1 _ rfl
   go_wp2_with fail
   refine (za3 P _ _ _ _ _ (by exact hrx) (by exact hrk)).mono ?_
   rintro e v4 ⟨rfl, hb⟩
   replace hB := hB.trans (hb.mono hB.size)
   go_wp2_with fail
   go_ret
   exact ⟨rfl, hB⟩
end Go.Proofs.YtbfinjiledfpcaaGreat
end
namespace Go.Proofs.YtbfinjiledfpcaaGreat.fnStackPush
open Go Go.ChangeShapes Go.WideShapes Go.ChangeAt Go.RowKit
set_option linter.unusedVariables false
theorem own : ownKnob Tryz.prog.godebug = none := by kernel_rfl
theorem laidOut : laidOutB Tryz.prog = true := by kernel_rfl
set_option maxRecDepth 100000 in
theorem lifted (os : Os) (started : os.Started) (H : Type) (enc : TypeId × Value → H) :
  ReturnsInHanded {} Tryz.checked os 6 .any (Rows.fnStackPushSpec.pre6 enc Tryz.prog Tryz.f6 Rows.fnStackPushRow.domain false) (Rows.fnStackPushSpec.post enc Tryz.prog Tryz.f6 false true false false) := by
 refine returnsInHanded_of_change (C := Tryz.checked) own started (by kernel_rfl) Tryz.func6
  (ChangeSpec.witness6 (enc := enc) (C := Tryz.checked) false ⟨#[], #[.slice none 0 0], []⟩ 8 (by kernel_rfl) (by kernel_rfl) (by kernel_rfl) (by kernel_rfl)) ?_
 intro W base args ds gs before hval0 hW hcnd _
 have hval : ∀ (j : Nat) t v, Tryz.f6.params[j]? = some t → args[j]? = some v → Value.okWide Tryz.prog W .any base t v := hval0
 have hW' := hW
 obtain ⟨p, q, hA0, hV, rfl, hfz, hnd⟩ := hW
 have hA : DataW.TrodAll enc Tryz.prog W 0 (fun _ => true) true Tryz.f6.params.toList args.toList ds p := hA0
 rw [Tryz.params6] at hA hval
 obtain ⟨v0, vs0, d0, ds0, p0, q0, hargs, rfl, rfl, h0, r0⟩ := trodAll_cons hA
 obtain ⟨rfl, rfl, rfl⟩ := trodAll_nil r0
 obtain rfl : args = #[v0] := by cases args; simp_all
 obtain ⟨rfl, rfl⟩ := trodVars_none hV
 obtain ⟨a0, len0, cap0, rfl⟩ := okWide_slice Tryz.underlying22 (hval 0 22 v0 rfl rfl)
 have k0 := h0
 have lt0 : ∀ x ∈ p0, x.block < W.heap.size := by obtain ⟨m, hm⟩ := k0; exact DataW.trod_lt m _ _ _ hm
 have hr0 : Byts W (.slice a0 len0 cap0) := by
  obtain ⟨fuel, hf⟩ := h0
  obtain ⟨v, hv, hr⟩ := zdQ fuel _ _ hf
  exact list1 hv ▸ hr
 clear hA0 hval0
 have hwalk := zcX _ W hr0
 refine hwalk.mono fun e W' ⟨he, bel⟩ => ?_
 subst he
 exact ⟨_, rfl, _, _, _, [], _, [], hW', trodAll_mk1 (shut_bool Tryz.underlying4 _), (trodAll_cons_mk (Below.trod laidOut (by kernel_rfl) (of_decide_eq_true (by kernel_rfl)) k0 bel lt0) trodAll_mk0), rfl, bel.frame _, fun h => by cases h⟩
theorem named : Tryz.pinned.checked.prog.funcNamed Rows.fnStackPushRow.func = some 6 := by kernel_rfl
theorem and2 {a b : Bool} (h : a = true) (h' : b = true) : (a && b) = true := by rw [h, h']; rfl
set_option maxHeartbeats 8000000 in
theorem closed : joinedFacts Tryz.pinned.checked.prog 6 Tryz.f6 Rows.fnStackPushSpec Rows.fnStackPushRow = true := by
 unfold joinedFacts
 repeat' (with_reducible refine and2 ?_ ?_)
 all_goals (as_aux_lemma => kernel_rfl)
theorem plain : Tryz.f6.isInstance Tryz.pinned.checked.prog Rows.fnStackPushRow.origin Rows.fnStackPushRow.targs := of_decide_eq_true (by kernel_rfl)
theorem bare : Tryz.f6.isWrapper Tryz.pinned.checked.prog Rows.fnStackPushRow.wrapper Rows.fnStackPushRow.mainSum := by unfold Func.isWrapper; first | (rw [if_pos (by decide +kernel)]; kernel_rfl) | (rw [if_neg (by decide +kernel)]; exact ⟨rfl, rfl⟩)
theorem over : Rows.fnStackPushRow.holds Tryz.pinned (OpenSpec.ofChange Rows.fnStackPushSpec) :=
 OpenClaim.holds_of_wide 6 Tryz.f6 rfl rfl rfl rfl rfl rfl rfl ⟨rfl, rfl, rfl, rfl, rfl⟩ rfl rfl rfl rfl rfl named Tryz.func6 closed plain bare
  (fun os started H enc _ => lifted os started H enc)
theorem proved : Rows.FnStackPushSaid := over
end Go.Proofs.YtbfinjiledfpcaaGreat.fnStackPush
