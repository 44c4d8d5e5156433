/- For all bytes that come in, the law FnFormsOk returns true and leaves its arguments as they were; there is no condition. -/
import Derived.BigQuiet
import Derived.Test.YtbfinjiledfpcaaGreatPa38
import Derived.Test.YtbfinjiledfpcaaGreatPa50
import Derived.Test.YtbfinjiledfpcaaGreatRows
import Derived.WalkKit
import Derived.ProofKit
import Derived.OpenShut
import Derived.ShutString
import Derived.ChangeOld
import Derived.Below
import Derived.Test.YtbfinjiledfpcaaGreatPa45
namespace Go.Proofs.YtbfinjiledfpcaaGreat
open Go Go.RowKit
set_option linter.unusedVariables false
set_option linter.unusedSimpArgs false
set_option maxRecDepth 100000 in
set_option maxHeartbeats 8000000 in
theorem zdq (v u : Value) (w : World) (hv : Byts w v) (hu : Byts w u) :
  Calls Tryz.prog 4 #[v, u] w fun e w' => e = .returned (.bool true) ∧ Below w.heap.size w w' := by
 have hv0 := hv
 obtain ⟨a9, n, cap, rfl, hn1, hn2, _⟩ := hv
 obtain ⟨a8, m, cap8, rfl, hm1, hm2, _⟩ := hu
 by_cases hlen : n ≤ 1048576
 rotate_left
 ·have hlb0 : decide ((1048576 : Int) < (n : Int)) = true := decide_eq_true (by omega)
  go_enter Tryz.func4, Tryz.ntmps4
  go_wp2_with fail
  go_ret
  exact ⟨rfl, Below.refl _ _⟩
 have hlb0 : decide ((1048576 : Int) < (n : Int)) = false := decide_eq_false (by omega)
 by_cases hlen2 : m ≤ 1048576
 rotate_left
 ·have hlb1 : decide ((1048576 : Int) < (m : Int)) = true := decide_eq_true (by omega)
  go_enter Tryz.func4, Tryz.ntmps4
  go_wp2_with fail
  go_ret
  exact ⟨rfl, Below.refl _ _⟩
 have hlb1 : decide ((1048576 : Int) < (m : Int)) = false := decide_eq_false (by omega)
 go_enter Tryz.func4, Tryz.ntmps4
 go_wp2_with fail
 refine (zcr _ _ hv0).mono ?_
 rintro e w1 ⟨⟨s, fs, a0, c0, b, nn, c, sf, fp, hln, hli, rfl, hrs, hrl⟩, hB⟩
 obtain ⟨_, c', hve, hc1, hc2⟩ := ze hrl
 simp only [Value.slice.injEq] at hve
 obtain ⟨-, rfl, hcc⟩ := hve
 rw [← hcc] at hc1 hc2
 clear hcc
 go_upto_region 4 with fail
 have hX := Box.new w1 [.slice a0 s.syms.length c0] 25
 obtain ⟨F, hF⟩ : ∃ F, F = w1.heap.size := ⟨_, rfl⟩
 rw [← hF] at hX ⊢
 clear hF
 have hba := zc w1 (.cells #[.slice a0 s.syms.length c0] 25)
 replace hrs := hrs.below hba
 replace hrl := hrl.below hba
 replace hB := hB.trans (hba.mono hB.size)
 clear hba
 generalize w1.alloc (.cells #[.slice a0 s.syms.length c0] 25) = W at *
 have HLI := Lib.hid hli
 have hbig : fs.length + wtR (fs.map Fm.cd) ≤ 1048576 := by have := HLI.out.2; omega
 clear hli
 obtain ⟨ok, HI⟩ : ∃ a, Hid (za8 s fs = a) := ⟨_, Lib.hid rfl⟩
 have q0 := hX.2.1 0 _ rfl
 go_wp2_with fail
 refine (zco s fs _ _ _ _ _ hbig (by exact hrs) (by exact hrl)).mono ?_
 rintro e w2 ⟨rfl, hb2⟩
 rw [HI.out]
 replace hX := hX.below hb2
 replace hrs := hrs.below hb2
 replace hrl := hrl.below hb2
 replace hB := hB.trans (hb2.mono hB.size)
 clear hb2
 clear q0
 have q0 := hX.2.1 0 _ rfl
 go_wp2_with fail
 refine (zbV s fs _ _ _ _ _ hbig (by exact hrs) (by exact hrl)).mono ?_
 rintro e w3 ⟨rfl, hb3⟩
 rw [HI.out]
 replace hX := hX.below hb3
 replace hrs := hrs.below hb3
 replace hrl := hrl.below hb3
 replace hB := hB.trans (hb3.mono hB.size)
 clear hb3
 clear q0
 have q0 := hX.2.1 0 _ rfl
 have ho1 : (ok != ok) = false := by cases ok <;> rfl
 have ho2 : (ok == ok) = true := by cases ok <;> rfl
 cases ok
 ·go_wp2_with fail
  refine (zbV s fs _ _ _ _ _ hbig (by exact hrs) (by exact hrl)).mono ?_
  rintro e w4 ⟨rfl, hb4⟩
  rw [HI.out]
  replace hX := hX.below hb4
  replace hrs := hrs.below hb4
  replace hrl := hrl.below hb4
  replace hB := hB.trans (hb4.mono hB.size)
  go_wp2_with fail
  go_ret
  exact ⟨rfl, hB⟩
 clear ho1 ho2
 obtain ⟨T, hT6⟩ : ∃ T, T = zF fs := ⟨_, rfl⟩
 have h6 := (zbn fs).2
 go_wp2_with fail
 refine (zcd fs _ _ _ hbig (by exact hrl)).mono ?_
 rintro e w4 ⟨tv, tf, rfl, htr, _, hb4⟩
 rw [← hT6] at htr h6
 replace hX := hX.below hb4
 replace hrs := hrs.below hb4
 replace hrl := hrl.below hb4
 replace hB := hB.trans (hb4.mono hB.size)
 clear hb4
 go_wp2_with fail
 refine (zce fs _ _ _ hbig (by exact hrl)).mono ?_
 rintro e w5 ⟨uv, uf, rfl, hur, _, hb5⟩
 rw [← hT6] at hur
 clear hT6
 replace hX := hX.below hb5
 replace hrs := hrs.below hb5
 replace hrl := hrl.below hb5
 replace htr := htr.below hb5
 replace hB := hB.trans (hb5.mono hB.size)
 clear hb5
 obtain ⟨ta, tc, rfl, ht1, ht2⟩ := ze htr
 obtain ⟨ua, uc, rfl, hu1, hu2⟩ := ze hur
 have hnn : ((T.length : Int) != (T.length : Int)) = false := by simp
 clear q0
 have q0 := hX.2.1 0 _ rfl
 go_wp2_with fail
 have hW5 := hB.size
 go_loopw [10] (fun i wr => ∃ k : Nat, k ≤ T.length ∧ i = .int .i64 k ∧ Below w5.heap.size w5 wr) (fun i _ => T.length - (intOf i).toNat)
 case atStart => exact ⟨0, Nat.zero_le _, rfl, Below.refl _ _⟩
 case round =>
  obtain ⟨k, hk, rfl, hb⟩ := hrel
  have hz := hb.size
  by_cases hlt : k < T.length
  ·obtain ⟨b1, o1, rfl, hbs1, _⟩ := zk htr (by omega)
   obtain ⟨b2, o2, rfl, hbs2, _⟩ := zk hur (by omega)
   obtain ⟨xa2, xc2, xf2, xa4, xc4, xf4, xa5, xc5, xf5, xa6, xc6, xf6, xd0, xd1, xd2, xd3, xd4, xd5, xd6, xd7, xd8, xm0, xm1, xm2, xm3, xm4, xm5, xm6, xm7, _⟩ := Atm.at (htr.below hb) hlt
   obtain ⟨ya2, yc2, yf2, ya4, yc4, yf4, ya5, yc5, yf5, ya6, yc6, yf6, yd0, yd1, yd2, yd3, yd4, yd5, yd6, yd7, yd8, ym0, ym1, ym2, ym3, ym4, ym5, ym6, ym7, _⟩ := Atm.at (hur.below hb) hlt
   have he : eqV T[k].cd T[k].cd = true := by rw [zaa]
   have HE := Lib.hid he
   clear he
   go_wp2_with fail
   have xq0 := cell_regrown xd0
   have xq1 := cell_regrown xd1
   have xq2 := cell_regrown xd2
   have xq3 := cell_regrown xd3
   have xq4 := cell_regrown xd4
   have xq5 := cell_regrown xd5
   have xq6 := cell_regrown xd6
   have xq7 := cell_regrown xd7
   have xq8 := cell_regrown xd8
   have yq0 := cell_regrown yd0
   have yq1 := cell_regrown yd1
   have yq2 := cell_regrown yd2
   have yq3 := cell_regrown yd3
   have yq4 := cell_regrown yd4
   have yq5 := cell_regrown yd5
   have yq6 := cell_regrown yd6
   have yq7 := cell_regrown yd7
   have yq8 := cell_regrown yd8
   refine wp_region_quiet_below (by kernel_rfl) (by kernel_rfl) ?_
   repeat (quiet_step (refine Calls.regrown_of (za0 T[k] T[k] _ _ _ _ _ ((Atm.close xm0 xm1 xm2 xm3 xm4 xm5 xm6 xm7).below (below_regrown _ _ _)) ((Atm.close ym0 ym1 ym2 ym3 ym4 ym5 ym6 ym7).below (below_regrown _ _ _)))))
   refine wpQuiet_nil ?_
   intro wq9 hq9
   obtain ⟨⟨dq, osq⟩, hq9⟩ := hq9
   have hb9 : Below wr.heap.size wr wq9 := hq9 ▸ below_regrown wr dq osq
   clear hq9
   clear xq0 yq0 xq1 yq1 xq2 yq2 xq3 yq3 xq4 yq4 xq5 yq5 xq6 yq6 xq7 yq7 xq8 yq8
   rw [HE.out]
   go_wp2_with fail
   go_roundw
   case rel => exact ⟨k + 1, by omega, by go_num, hb.trans (hb9.mono hz)⟩
   case measure => simp [intOf]; omega
  ·have hX' := hX.below hb
   clear hX
   have q0 := hX'.2.1 0 _ rfl
   replace hrs := hrs.below hb
   replace hrl := hrl.below hb
   replace htr := htr.below hb
   replace hB := hB.trans (hb.mono hW5)
   clear hb hz hur
   have HIN := Lib.hid (fun (f : Fm) (hf : f ∈ fs) => fmsIn_mem HI.out hf)
   have HTK := Lib.hid (fun (k : Nat) => ze2 HI.out k)
   obtain ⟨wA, rfl⟩ : ∃ x, x = wr := ⟨_, rfl⟩
   go_wp2_with fail
   have hWr := hB.size
   go_loopw [11] (fun i wq => ∃ k : Nat, k ≤ fs.length ∧ i = .int .i64 k ∧ Below wA.heap.size wA wq) (fun i _ => fs.length - (intOf i).toNat)
   case atStart => exact ⟨0, Nat.zero_le _, rfl, Below.refl _ _⟩
   case round =>
    obtain ⟨k, hk, rfl, hb⟩ := hrel
    have hz := hb.size
    by_cases hlt : k < fs.length
    ·obtain ⟨b1, o1, rfl, hbs1, _⟩ := zk hrl (by omega)
     obtain ⟨xa3, xc3, xf3, xa5, xc5, xf5, xa6, xc6, xf6, xa7, xc7, xf7, xa11, xc11, xf11, xd0, xd1, xd2, xd3, xd4, xd5, xd6, xd7, xd8, xd9, xd10, xd11, xm0, xm1, xm2, xm3, xm4, xm5, xm6, xm7, xm8, xm9, _⟩ := Fm.at (hrl.below hb) hlt
     have p0 := zb q0 hb
     have HF := Lib.hid (HIN.out fs[k] (zfk hlt))
     have hwk := HLI.out.1 fs[k] (zfk hlt)
     go_wp2_with fail
     have xq0 := cell_regrown xd0
     have xq1 := cell_regrown xd1
     have xq2 := cell_regrown xd2
     have xq3 := cell_regrown xd3
     have xq4 := cell_regrown xd4
     have xq5 := cell_regrown xd5
     have xq6 := cell_regrown xd6
     have xq7 := cell_regrown xd7
     have xq8 := cell_regrown xd8
     have xq9 := cell_regrown xd9
     have xq10 := cell_regrown xd10
     have xq11 := cell_regrown xd11
     have pq0 := cell_regrown p0
     refine wp_region_quiet_below (by kernel_rfl) (by kernel_rfl) ?_
     repeat (quiet_step (refine Calls.regrown_of (zcO s fs[k] _ _ _ _ _ (by omega) ((hrs.below hb).below (below_regrown _ _ _)) ((Fm.close xm0 xm1 xm2 xm3 xm4 xm5 xm6 xm7 xm8 xm9).below (below_regrown _ _ _)))))
     refine wpQuiet_nil ?_
     intro wq9 hq9
     obtain ⟨⟨dq, osq⟩, hq9⟩ := hq9
     have hb9 : Below wr.heap.size wr wq9 := hq9 ▸ below_regrown wr dq osq
     clear hq9
     clear pq0 xq0 xq1 xq2 xq3 xq4 xq5 xq6 xq7 xq8 xq9 xq10 xq11
     rw [HF.out]
     go_wp2_with fail
     go_roundw
     case rel => exact ⟨k + 1, by omega, by go_num, hb.trans (hb9.mono hz)⟩
     case measure => simp [intOf]; omega
    ·have p0 := zb q0 hb
     replace hrs := hrs.below hb
     replace hrl := hrl.below hb
     replace hB := hB.trans (hb.mono hWr)
     clear hb hz q0
     have hkd : (fs.length : Int) + 1 ≠ 0 := by omega
     have hk : (m : Int) % ((fs.length : Int) + 1) = ((m % (fs.length + 1) : Nat) : Int) := rfl
     have hkl : m % (fs.length + 1) ≤ fs.length := by have := Nat.mod_lt m (show 0 < fs.length + 1 by omega); omega
     go_upto_region 22 with fail
     rw [hk]
     clear hk
     generalize m % (fs.length + 1) = k at *
     have HT := Lib.hid (HTK.out k)
     have hbk : (fs.take k).length + wtR ((fs.take k).map Fm.cd) ≤ 1048576 := by
      have h1 := zy Fm.cd fs k
      rw [List.map_take, List.length_take]; omega
     obtain ⟨fq, het, _⟩ := hrl.take8 (i := k) (by rw [zfo]; omega)
     rw [← List.map_take] at het
     have hk1 : (k : Int) ≤ (c : Int) := by omega
     have hk2 : (0 : Int) ≤ (k : Int) := by omega
     have hk3 : ¬ ((c : Int) < (k : Int)) := by omega
     have hk4 : decide ((k : Int) < 0) = false := decide_eq_false (by omega)
     have hk5 : decide ((c : Int) < (k : Int)) = false := decide_eq_false (by omega)
     have hcl : ∀ (W' : World) (fq : List Nat), RdVs W' s.cd [.slice a0 s.syms.length c0] sf → Rd W' (.sl ((fs.take k).map Fm.cd)) (.slice b k c) fq → Calls Tryz.prog 17 #[.agg #[.slice a0 s.syms.length c0], .slice b k c] W' fun e w' => e = .returned (.bool true) ∧ Below W'.heap.size W' w' := fun W' fq h1 h2 => by
      have h3 := zco s (fs.take k) _ _ _ _ W' hbk h1 h2
      rw [HT.out] at h3
      exact h3
     have h66 : decide ((T.length : Int) ≤ 6) = true := decide_eq_true (by omega)
     go_wp2_with fail
     have pq0 := cell_regrown p0
     refine wp_region_quiet_below (by kernel_rfl) (by kernel_rfl) ?_
     repeat (go_big_quiet_step (with_reducible refine Calls.regrown_of (hcl _ _ (hrs.below (below_regrown _ _ _)) (het.below (below_regrown _ _ _)))))
     refine wpQuiet_nil ?_
     intro wq9 hq9
     obtain ⟨⟨dq, osq⟩, hq9⟩ := hq9
     have hb9 : Below wr.heap.size wr wq9 := hq9 ▸ below_regrown wr dq osq
     clear hq9
     clear pq0 hcl
     go_wp2_with fail
     go_ret
     exact ⟨rfl, hB.trans (hb9.mono hB.size)⟩
end Go.Proofs.YtbfinjiledfpcaaGreat
namespace Go.Proofs.YtbfinjiledfpcaaGreat.fnFormsOk
open Go Go.ChangeShapes Go.WideShapes Go.ChangeAt Go.RowKit
set_option linter.unusedVariables false
theorem own : ownKnob Tryz.prog.godebug = none := by kernel_rfl
theorem laidOut : laidOutB Tryz.prog = true := by kernel_rfl
set_option maxRecDepth 100000 in
theorem lifted (os : Os) (started : os.Started) (H : Type) (enc : TypeId × Value → H) :
  ReturnsInHanded {} Tryz.checked os 4 .any (Rows.fnFormsOkSpec.pre6 enc Tryz.prog Tryz.f4 Rows.fnFormsOkRow.domain false) (Rows.fnFormsOkSpec.post enc Tryz.prog Tryz.f4 false true false false) := by
 refine returnsInHanded_of_change (C := Tryz.checked) own started (by kernel_rfl) Tryz.func4
  (ChangeSpec.witness6 (enc := enc) (C := Tryz.checked) false ⟨#[], #[.slice none 0 0, .slice none 0 0], []⟩ 8 (by kernel_rfl) (by kernel_rfl) (by kernel_rfl) (by kernel_rfl)) ?_
 intro W base args ds gs before hval0 hW hcnd _
 have hval : ∀ (j : Nat) t v, Tryz.f4.params[j]? = some t → args[j]? = some v → Value.okWide Tryz.prog W .any base t v := hval0
 have hW' := hW
 obtain ⟨p, q, hA0, hV, rfl, hfz, hnd⟩ := hW
 have hA : DataW.TrodAll enc Tryz.prog W 0 (fun _ => true) true Tryz.f4.params.toList args.toList ds p := hA0
 rw [Tryz.params4] at hA hval
 obtain ⟨v0, vs0, d0, ds0, p0, q0, hargs, rfl, rfl, h0, r0⟩ := trodAll_cons hA
 obtain ⟨v1, vs1, d1, ds1, p1, q1, rfl, rfl, rfl, h1, r1⟩ := trodAll_cons r0
 obtain ⟨rfl, rfl, rfl⟩ := trodAll_nil r1
 obtain rfl : args = #[v0, v1] := by cases args; simp_all
 obtain ⟨rfl, rfl⟩ := trodVars_none hV
 obtain ⟨a0, len0, cap0, rfl⟩ := okWide_slice Tryz.underlying22 (hval 0 22 v0 rfl rfl)
 obtain ⟨a1, len1, cap1, rfl⟩ := okWide_slice Tryz.underlying22 (hval 1 22 v1 rfl rfl)
 have k0 := h0
 have lt0 : ∀ x ∈ p0, x.block < W.heap.size := by obtain ⟨m, hm⟩ := k0; exact DataW.trod_lt m _ _ _ hm
 have hr0 : Byts W (.slice a0 len0 cap0) := by
  obtain ⟨fuel, hf⟩ := h0
  obtain ⟨v, hv, hr⟩ := zb9 fuel _ _ hf
  exact list1 hv ▸ hr
 have k1 := h1
 have lt1 : ∀ x ∈ p1, x.block < W.heap.size := by obtain ⟨m, hm⟩ := k1; exact DataW.trod_lt m _ _ _ hm
 have hr1 : Byts W (.slice a1 len1 cap1) := by
  obtain ⟨fuel, hf⟩ := h1
  obtain ⟨v, hv, hr⟩ := zb9 fuel _ _ hf
  exact list1 hv ▸ hr
 clear hA0 hval0
 have hwalk := zdq _ _ W hr0 hr1
 refine hwalk.mono fun e W' ⟨he, bel⟩ => ?_
 subst he
 exact ⟨_, rfl, _, _, _, [], _, [], hW', trodAll_mk1 (shut_bool Tryz.underlying4 _), (trodAll_cons_mk (Below.trod laidOut (by kernel_rfl) (of_decide_eq_true (by kernel_rfl)) k0 bel lt0) (trodAll_cons_mk (Below.trod laidOut (by kernel_rfl) (of_decide_eq_true (by kernel_rfl)) k1 bel lt1) trodAll_mk0)), rfl, bel.frame _, fun h => by cases h⟩
theorem named : Tryz.pinned.checked.prog.funcNamed Rows.fnFormsOkRow.func = some 4 := by kernel_rfl
theorem and2 {a b : Bool} (h : a = true) (h' : b = true) : (a && b) = true := by rw [h, h']; rfl
set_option maxHeartbeats 8000000 in
theorem closed : joinedFacts Tryz.pinned.checked.prog 4 Tryz.f4 Rows.fnFormsOkSpec Rows.fnFormsOkRow = true := by
 unfold joinedFacts
 repeat' (with_reducible refine and2 ?_ ?_)
 all_goals (as_aux_lemma => kernel_rfl)
theorem plain : Tryz.f4.isInstance Tryz.pinned.checked.prog Rows.fnFormsOkRow.origin Rows.fnFormsOkRow.targs := of_decide_eq_true (by kernel_rfl)
theorem bare : Tryz.f4.isWrapper Tryz.pinned.checked.prog Rows.fnFormsOkRow.wrapper Rows.fnFormsOkRow.mainSum := by unfold Func.isWrapper; first | (rw [if_pos (by decide +kernel)]; kernel_rfl) | (rw [if_neg (by decide +kernel)]; exact ⟨rfl, rfl⟩)
theorem over : Rows.fnFormsOkRow.holds Tryz.pinned (OpenSpec.ofChange Rows.fnFormsOkSpec) :=
 OpenClaim.holds_of_wide 4 Tryz.f4 rfl rfl rfl rfl rfl rfl rfl ⟨rfl, rfl, rfl, rfl, rfl⟩ rfl rfl rfl rfl rfl named Tryz.func4 closed plain bare
  (fun os started H enc _ => lifted os started H enc)
theorem proved : Rows.FnFormsOkSaid := over
end Go.Proofs.YtbfinjiledfpcaaGreat.fnFormsOk
