/- For all bytes that come in, the law FnStackForms returns true and leaves its arguments as they were; there is no condition. -/
import Derived.Laws.BytesArg
import Derived.Test.YtbfinjiledfpcaaGreatPb7
import Derived.Test.YtbfinjiledfpcaaGreatPb2
import Derived.Lib.QuietBelow
import Derived.Test.YtbfinjiledfpcaaGreatPb5
import Derived.Test.YtbfinjiledfpcaaGreatPb34
import Derived.Deep.RegionHeld3
import Derived.Test.YtbfinjiledfpcaaGreatPb9
import Derived.BigQuiet
import Derived.Test.YtbfinjiledfpcaaGreatPb43
import Derived.Test.YtbfinjiledfpcaaGreatPb44
import Derived.Test.YtbfinjiledfpcaaGreatRows
import Derived.WalkKit
import Derived.ProofKit
import Derived.OpenShut
import Derived.ShutString
import Derived.ChangeOld
import Derived.Below
import Derived.Test.YtbfinjiledfpcaaGreatPb29
section
namespace Go.Proofs.YtbfinjiledfpcaaGreat
open Go Go.RowKit
set_option linter.unusedVariables false
set_option linter.unusedSimpArgs false
set_option maxRecDepth 100000
set_option maxHeartbeats 16000000
namespace Tm
end Tm
end Go.Proofs.YtbfinjiledfpcaaGreat
end
namespace Go.Proofs.YtbfinjiledfpcaaGreat
open Go Go.RowKit
set_option linter.unusedVariables false
set_option linter.unusedSimpArgs false
set_option maxHeartbeats 1600000
set_option maxRecDepth 100000
end Go.Proofs.YtbfinjiledfpcaaGreat
namespace Go.Proofs.YtbfinjiledfpcaaGreat
open Go Go.RowKit
set_option linter.unusedVariables false
set_option linter.unusedSimpArgs false
set_option maxHeartbeats 1600000
set_option maxRecDepth 100000
end Go.Proofs.YtbfinjiledfpcaaGreat
/- mark and held of struct values: their slices alone. -/
namespace Go.Proofs.YtbfinjiledfpcaaGreat
open Go Go.RowKit
set_option linter.unusedVariables false
set_option linter.unusedSimpArgs false
set_option linter.unusedVariables false
end Go.Proofs.YtbfinjiledfpcaaGreat
/- How many scalars there are, bound by the law's weight. -/
namespace Go.Proofs.YtbfinjiledfpcaaGreat
open Go Go.RowKit
set_option linter.unusedVariables false
set_option linter.unusedSimpArgs false
end Go.Proofs.YtbfinjiledfpcaaGreat
section
namespace Go.Proofs.YtbfinjiledfpcaaGreat
open Go Go.RowKit
set_option linter.unusedVariables false
set_option linter.unusedSimpArgs false
set_option maxRecDepth 100000
set_option maxHeartbeats 16000000
end Go.Proofs.YtbfinjiledfpcaaGreat
end
/- The assertions of a stack, copied: both sides. -/
namespace Go.Proofs.YtbfinjiledfpcaaGreat
open Go Go.RowKit
set_option linter.unusedVariables false
set_option linter.unusedSimpArgs false
def zbY (k : Stk) : List Fm := if k.okK then k.levels.flatten else []
theorem zcY {k : Stk} (h : k.okK = false) : zbY k = [] := by unfold zbY; rw [h]; rfl
theorem zb7 {k : Stk} (h : k.okK = true) : zbY k = k.levels.flatten := by unfold zbY; rw [h]; rfl
theorem rd_sl0 {w : World} {α : Type} {cd : α → List CD} (a : Option Addr) : Rd w (.sl (([] : List α).map cd)) (.slice a 0 0) [] := by
 simp only [List.map_nil, Rd]; exact ⟨a, 0, rfl, by simp, by simp [maxLen], by simp⟩
set_option maxHeartbeats 4000000 in
theorem zc6 (k : Stk) (vs : List Value) (f : List Nat) (w : World) (hbig : wtV k.cd ≤ 1048576) (hv : RdVs w k.cd vs f) :
  Calls Tryz.prog 22 #[.agg vs.toArray] w (zcz (.sl ((zbY k).map Fm.cd)) w) := by
 have hv0 := hv
 obtain ⟨a0, c0, f0, a1, c1, f1, rfl, _, m0, m1⟩ := Stk.open hv
 have hfb := Stk.flat_big hbig
 have hb0 := zd w (.cells #[.slice a0 k.sig.syms.length c0, .slice a1 k.levels.length c1] 53)
 go_enter Tryz.func22, Tryz.ntmps22
 go_wp2_with fail
 refine (zbC k _ _ _ hbig (by exact hv0.below hb0)).mono ?_
 rintro e w1 ⟨rfl, hb1⟩
 obtain ⟨hx, hz1, hB⟩ := box1 (w := w) (wr := w1) (cs := #[.slice a0 k.sig.syms.length c0, .slice a1 k.levels.length c1]) (T := 53) (zq hb1 (by simp))
 have X0 := hx 0
 have X1 := hx 1
 simp only [zfG, zfE, zfF] at X0 X1
 clear hb1 hx
 cases hok : k.okK
 ·have HE := Lib.hid (zcY hok)
  clear hok
  go_wp2_with fail
  go_ret
  exact ⟨_, [], rfl, by rw [HE.out]; exact rd_sl0 _, Fresh.nil _ _, hB⟩
 ·have HE := Lib.hid (zb7 hok)
  clear hok
  go_wp2_with fail
  refine (zd9 k _ _ _ hfb (by exact hv0.below hB)).mono ?_
  rintro e w2 ⟨⟨rv, rf, rfl, hr⟩, hb2⟩
  have hB2 := hB.trans (hb2.mono (by omega))
  have hz2 := hb2.size
  clear hb2 X0 X1
  obtain ⟨fs, hfs⟩ : ∃ fs, fs = k.levels.flatten := ⟨_, rfl⟩
  have HE2 : Hid (zbY k = fs) := Lib.hid (by rw [HE.out, hfs])
  rw [← hfs] at hr hfb
  clear hfs
  obtain ⟨ra, rc, rfl, _, _⟩ := zh hr
  go_wp2_with fail
  refine (zdh fs _ _ _ hfb (by exact hr)).mono ?_
  rintro e w3 ⟨kv, fp, rfl, hr3, hf3, hb3⟩
  obtain ⟨ka, kc, rfl, _, _⟩ := zh hr3
  have hB3 := hB2.trans (hb3.mono (by omega))
  go_wp2_with fail
  go_ret
  exact ⟨_, fp, rfl, by rw [HE2.out]; exact hr3, hf3.mono (by omega), hB3⟩
set_option maxHeartbeats 4000000 in
theorem zcZ (k : Stk) (vs : List Value) (f : List Nat) (w : World) (hbig : wtV k.cd ≤ 1048576) (hv : RdVs w k.cd vs f) :
  Calls Tryz.prog 23 #[.agg vs.toArray] w (zcz (.sl ((zbY k).map Fm.cd)) w) := by
 have hv0 := hv
 obtain ⟨a0, c0, f0, a1, c1, f1, rfl, _, m0, m1⟩ := Stk.open hv
 have hfb := Stk.flat_big hbig
 have hb0 := zd w (.cells #[.slice a0 k.sig.syms.length c0, .slice a1 k.levels.length c1] 53)
 go_enter Tryz.func23, Tryz.ntmps23
 go_wp2_with fail
 refine (zat k _ _ _ hbig (by exact hv0.below hb0)).mono ?_
 rintro e w1 ⟨rfl, hb1⟩
 obtain ⟨hx, hz1, hB⟩ := box1 (w := w) (wr := w1) (cs := #[.slice a0 k.sig.syms.length c0, .slice a1 k.levels.length c1]) (T := 53) (zq hb1 (by simp))
 have X0 := hx 0
 have X1 := hx 1
 simp only [zfG, zfE, zfF] at X0 X1
 clear hb1 hx
 cases hok : k.okK
 ·have HE := Lib.hid (zcY hok)
  clear hok
  go_wp2_with fail
  go_ret
  exact ⟨_, [], rfl, by rw [HE.out]; exact rd_sl0 _, Fresh.nil _ _, hB.alloc (by omega) _⟩
 ·have HE := Lib.hid (zb7 hok)
  clear hok
  go_wp2_with fail
  refine (zcg k _ _ _ hfb (by exact hv0.below hB)).mono ?_
  rintro e w2 ⟨⟨rv, rf, rfl, hr⟩, hb2⟩
  have hB2 := hB.trans (hb2.mono (by omega))
  have hz2 := hb2.size
  clear hb2 X0 X1
  obtain ⟨fs, hfs⟩ : ∃ fs, fs = k.levels.flatten := ⟨_, rfl⟩
  have HE2 : Hid (zbY k = fs) := Lib.hid (by rw [HE.out, hfs])
  rw [← hfs] at hr hfb
  clear hfs
  obtain ⟨ra, rc, rfl, _, _⟩ := zh hr
  go_wp2_with fail
  refine (zdl fs _ _ _ hfb (by exact hr)).mono ?_
  rintro e w3 ⟨kv, fp, rfl, hr3, hf3, hb3⟩
  obtain ⟨ka, kc, rfl, _, _⟩ := zh hr3
  have hB3 := hB2.trans (hb3.mono (by omega))
  go_wp2_with fail
  go_ret
  exact ⟨_, fp, rfl, by rw [HE2.out]; exact hr3, hf3.mono (by omega), hB3⟩
end Go.Proofs.YtbfinjiledfpcaaGreat
/- The law FnExactStackForms returns true. -/
namespace Go.Proofs.YtbfinjiledfpcaaGreat
open Go Go.RowKit
set_option linter.unusedVariables false
set_option linter.unusedSimpArgs false
end Go.Proofs.YtbfinjiledfpcaaGreat
section
namespace Go.Proofs.YtbfinjiledfpcaaGreat
open Go Go.RowKit
set_option linter.unusedVariables false
set_option linter.unusedSimpArgs false
set_option maxRecDepth 100000
set_option maxHeartbeats 16000000
theorem flat_at {ls : List (List Fm)} : ∀ {i j m : Nat} (hi : i < ls.length) (hj : j < ls[i].length), m = (ls.take i).flatten.length + j → ∃ h : m < ls.flatten.length, ls.flatten[m] = ls[i][j] := by
 induction ls with
 | nil => intro i j m hi; simp at hi
 | cons l ls ih =>
  intro i j m hi hj hm
  cases i with
  | zero =>
   simp only [List.take_zero, List.flatten_nil, List.length_nil, Nat.zero_add] at hm
   subst hm
   simp only [List.getElem_cons_zero] at hj ⊢
   exact ⟨by rw [List.flatten_cons, zfL]; omega, by simp only [List.flatten_cons]; rw [List.getElem_append_left hj]⟩
  | succ i =>
   simp only [List.take_succ_cons, List.flatten_cons, zfL] at hm
   simp only [List.getElem_cons_succ] at hj ⊢
   obtain ⟨h1, h2⟩ := ih (m := (ls.take i).flatten.length + j) (by simpa using hi) hj rfl
   refine ⟨by rw [List.flatten_cons, zfL]; omega, ?_⟩
   simp only [List.flatten_cons]
   rw [List.getElem_append_right (by omega)]
   have e : m - l.length = (ls.take i).flatten.length + j := by omega
   simp only [e]
   exact h2
theorem flat_next {ls : List (List Fm)} {i : Nat} (hi : i < ls.length) : (ls.take (i + 1)).flatten.length = (ls.take i).flatten.length + ls[i].length := by
 rw [zfI hi, List.flatten_append, zfL]; simp
theorem okK_fms {K : Stk} (h : K.okK = true) : zcm K.sig K.levels.flatten = true := by
 simp only [Stk.okK, zfP] at h; exact h.2
theorem zcn (v : Value) (w : World) (hv : Byts w v) :
  Calls Tryz.prog 5 #[v] w fun e w' => e = .returned (.bool true) ∧ Below w.heap.size w w' := by
 have hv0 := hv
 obtain ⟨a9, n, cap, rfl, hn1, hn2, _⟩ := hv
 by_cases hlen : n ≤ 1048576
 rotate_left
 ·have hlb0 : decide ((1048576 : Int) < (n : Int)) = true := decide_eq_true (by omega)
  go_enter Tryz.func5, Tryz.ntmps5
  go_wp2_with fail
  go_ret
  exact ⟨rfl, Below.refl _ _⟩
 have hlb0 : decide ((1048576 : Int) < (n : Int)) = false := decide_eq_false (by omega)
 go_enter Tryz.func5, Tryz.ntmps5
 go_wp2_with fail
 refine (zbX _ _ hv0).mono ?_
 rintro e w1 ⟨⟨K, ka, kc, kl, km, kf, hwt, rfl, hrk⟩, hB⟩
 have hfb := Stk.flat_big (k := K) (by omega)
 obtain ⟨_, _, _, _, _, _, hve, _, hm0, hlv⟩ := Stk.open hrk
 simp only [List.cons.injEq, Value.slice.injEq, and_true, true_and] at hve
 obtain ⟨⟨rfl, rfl⟩, rfl, rfl⟩ := hve
 have hrs := Sg.close hm0
 clear hm0
 obtain ⟨kB, kBe⟩ : ∃ S, S = w1.heap.size := ⟨_, rfl⟩
 have hK := Box.new w1 [.slice ka K.sig.syms.length kc, .slice kl K.levels.length km] 53
 rw [← kBe] at hK
 go_upto_region 4 with fail
 rw [← kBe]
 have hba := zd w1 (.cells #[.slice ka K.sig.syms.length kc, .slice kl K.levels.length km] 53)
 replace hrk := hrk.below hba
 replace hlv := hlv.below hba
 replace hrs := hrs.below hba
 replace hB := hB.trans (hba.mono hB.size)
 clear hba kBe 
 generalize w1.alloc (.cells #[.slice ka K.sig.syms.length kc, .slice kl K.levels.length km] 53) = w2 at *
 obtain ⟨T, hT⟩ : ∃ T, zbY K = T := ⟨_, rfl⟩
 have HTY : Hid (K.okK = true → T = K.levels.flatten) := Lib.hid (fun h => by rw [← hT, zb7 h])
 have HTN : Hid (K.okK = false → T = []) := Lib.hid (fun h => by rw [← hT, zcY h])
 have kq0 := hK.2.1 0 _ rfl
 have kq1 := hK.2.1 1 _ rfl
 go_wp2_with fail
 refine (zc6 K _ _ _ (by omega) (by exact hrk)).mono ?_
 rintro e w3 ⟨xv, xf, rfl, hrx, _, hb⟩
 rw [hT] at hrx
 replace hrk := hrk.below hb
 replace hlv := hlv.below hb
 replace hrs := hrs.below hb
 replace hK := hK.below hb
 replace hB := hB.trans (hb.mono hB.size)
 clear hb
 clear kq0 kq1
 have kq0 := hK.2.1 0 _ rfl
 have kq1 := hK.2.1 1 _ rfl
 go_wp2_with fail
 refine (zcZ K _ _ _ (by omega) (by exact hrk)).mono ?_
 rintro e w4 ⟨yv, yf, rfl, hry, _, hb⟩
 rw [hT] at hry
 clear hT
 replace hrk := hrk.below hb
 replace hlv := hlv.below hb
 replace hrs := hrs.below hb
 replace hK := hK.below hb
 replace hrx := hrx.below hb
 replace hB := hB.trans (hb.mono hB.size)
 clear hb
 clear kq0 kq1
 obtain ⟨xa, xc, rfl, _, _⟩ := zh hrx
 obtain ⟨ya, yc, rfl, _, _⟩ := zh hry
 clear hry
 have hnn : ((T.length : Int) != (T.length : Int)) = false := by simp
 have kq0 := hK.2.1 0 _ rfl
 have kq1 := hK.2.1 1 _ rfl
 go_wp2_with fail
 refine (zat K _ _ _ (by omega) (by exact hrk)).mono ?_
 rintro e w5 ⟨rfl, hb⟩
 replace hrk := hrk.below hb
 replace hlv := hlv.below hb
 replace hrs := hrs.below hb
 replace hK := hK.below hb
 replace hrx := hrx.below hb
 replace hB := hB.trans (hb.mono hB.size)
 clear hb hnn
 clear kq0 kq1
 cases hok : K.okK
 ·have hT0 := HTN.out hok
  clear hok
  have hl0 : ((T.length : Int) == 0) = true := by rw [hT0]; rfl
  clear hT0
  go_wp2_with fail
  go_ret
  exact ⟨rfl, hB⟩
 ·have HT := Lib.hid (HTY.out hok)
  have HIN : Hid (zcm K.sig T = true) := Lib.hid (by rw [HT.out]; exact okK_fms hok)
  have hbT : T.length + wtR (T.map Fm.cd) ≤ 1048576 := by rw [HT.out]; omega
  have hTl : T.length ≤ 1048576 := by omega
  have hKl : K.levels.length ≤ 1048576 := by have h9 := zak K.sig K.levels; rw [stk_eta8] at h9; omega
  clear hok HTY HTN
  have hw5 := hB.size
  have kq0 := hK.2.1 0 _ rfl
  have kq1 := hK.2.1 1 _ rfl
  have HTL : Hid ((K.levels.take K.levels.length).flatten.length = T.length) := Lib.hid (by rw [HT.out, List.take_length])
  go_wp2_with fail
  go_loopw [6, 7] (fun nv iv wr => ∃ i m : Nat, i ≤ K.levels.length ∧ iv = .int .i64 i ∧ nv = .int .i64 m ∧ Hid (m = (K.levels.take i).flatten.length) ∧ Below w5.heap.size w5 wr) (fun _ iv _ => K.levels.length - (intOf iv).toNat)
  case atStart => exact ⟨0, 0, Nat.zero_le _, rfl, rfl, Lib.hid (by simp), Below.refl _ _⟩
  case round =>
   obtain ⟨i, m, hi, rfl, rfl, HM, hb⟩ := hrel
   have hz := hb.size
   have kq0' := zb kq0 hb
   have kq1' := zb kq1 hb
   by_cases hlt : i < K.levels.length
   ·obtain ⟨bl, ol, rfl, hbl, _⟩ := zr hlv (by omega)
    obtain ⟨ia, ic, if9, id0, hli, _⟩ := zaX (hlv.below hb) hlt
    obtain ⟨wA, rfl⟩ : ∃ x, x = wr := ⟨_, rfl⟩
    have hrxA := hrx.below hb
    have hlj := zam hli
    have hzA := Nat.le_trans hw5 hz
    clear kq0 kq1
    go_wp2_with fail
    go_loopw [6, 8] (fun nv jv wq => ∃ j n : Nat, j ≤ K.levels[i].length ∧ jv = .int .i64 j ∧ nv = .int .i64 n ∧ m + j ≤ n ∧ n ≤ m + j ∧ Below wA.heap.size wA wq) (fun _ jv _ => K.levels[i].length - (intOf jv).toNat)
    case atStart => exact ⟨0, m, Nat.zero_le _, rfl, rfl, by omega, by omega, Below.refl _ _⟩
    case round =>
     obtain ⟨j, n', hj, rfl, rfl, hn1', hn2', hbj⟩ := hrel
     have hzj := hbj.size
     have kq0 := zb kq0' hbj
     have kq1 := zb kq1' hbj
     have jd0 := zb id0 hbj
     by_cases hjl : j < K.levels[i].length
     ·obtain ⟨hnT0, hE0⟩ := flat_at hlt hjl (m := n') (by have := HM.out; omega)
      have hnT : n' < T.length := by rw [HT.out]; exact hnT0
      have HE : Hid (eqV T[n'].cd K.levels[i][j].cd = true) := Lib.hid (by
       rw [zaO]
       have e : T[n'] = K.levels.flatten[n'] := by simp only [HT.out]
       rw [e, hE0])
      clear hnT0 hE0
      obtain ⟨b1, o1, rfl, hbs1, _⟩ := zr hrxA (by omega)
      obtain ⟨b2, o2, rfl, hbs2, _⟩ := zr hli (by omega)
      obtain ⟨xa3, xc3, xf3, xa5, xc5, xf5, xa6, xc6, xf6, xa7, xc7, xf7, xa11, xc11, xf11, xd0, xd1, xd2, xd3, xd4, xd5, xd6, xd7, xd8, xd9, xd10, xd11, xm0, xm1, xm2, xm3, xm4, xm5, xm6, xm7, xm8, xm9, _⟩ := Fm.at (hrxA.below hbj) hnT
      obtain ⟨ya3, yc3, yf3, ya5, yc5, yf5, ya6, yc6, yf6, ya7, yc7, yf7, ya11, yc11, yf11, yd0, yd1, yd2, yd3, yd4, yd5, yd6, yd7, yd8, yd9, yd10, yd11, ym0, ym1, ym2, ym3, ym4, ym5, ym6, ym7, ym8, ym9, _⟩ := Fm.at (hli.below hbj) hjl
      have hjd : decide ((j : Int) < (K.levels[i].length : Int)) = true := decide_eq_true (by omega)
      go_wp2_with fail
      have xq0 := cell_regrown xd0
      have xq1 := cell_regrown xd1
      have xq2 := cell_regrown xd2
      have xq3 := cell_regrown xd3
      have xq4 := cell_regrown xd4
      have xq5 := cell_regrown xd5
      have xq6 := cell_regrown xd6
      have xq7 := cell_regrown xd7
      have xq8 := cell_regrown xd8
      have xq9 := cell_regrown xd9
      have xq10 := cell_regrown xd10
      have xq11 := cell_regrown xd11
      have yq0 := cell_regrown yd0
      have yq1 := cell_regrown yd1
      have yq2 := cell_regrown yd2
      have yq3 := cell_regrown yd3
      have yq4 := cell_regrown yd4
      have yq5 := cell_regrown yd5
      have yq6 := cell_regrown yd6
      have yq7 := cell_regrown yd7
      have yq8 := cell_regrown yd8
      have yq9 := cell_regrown yd9
      have yq10 := cell_regrown yd10
      have yq11 := cell_regrown yd11
      have qk1 := cell_regrown kq1
      have qj0 := cell_regrown jd0
      refine wp_region_quiet_below (by kernel_rfl) (by kernel_rfl) ?_
      repeat (quiet_step (refine Calls.regrown_of (ze0 T[n'] K.levels[i][j] _ _ _ _ _ ((Fm.close xm0 xm1 xm2 xm3 xm4 xm5 xm6 xm7 xm8 xm9).below (below_regrown _ _ _)) ((Fm.close ym0 ym1 ym2 ym3 ym4 ym5 ym6 ym7 ym8 ym9).below (below_regrown _ _ _)))))
      refine wpQuiet_nil ?_
      intro wq9 hq9
      obtain ⟨⟨dq, osq⟩, hq9⟩ := hq9
      have hb9 : Below wr.heap.size wr wq9 := hq9 ▸ below_regrown wr dq osq
      clear hq9
      clear qk1 qj0 xq0 xq1 xq2 xq3 xq4 xq5 xq6 xq7 xq8 xq9 xq10 xq11 yq0 yq1 yq2 yq3 yq4 yq5 yq6 yq7 yq8 yq9 yq10 yq11
      rw [HE.out]
      go_wp2_with fail
      go_roundw
      case rel => exact ⟨j + 1, n' + 1, by omega, by go_num, by go_num, by omega, by omega, hbj.trans (hb9.mono hzj)⟩
      case measure => simp [intOf]; omega
     ·have hjd : decide ((j : Int) < (K.levels[i].length : Int)) = false := decide_eq_false (by omega)
      go_wp2_with fail
      go_roundw
      case rel => exact ⟨i + 1, n', by omega, by go_num, rfl, Lib.hid (by rw [flat_next hlt]; have := HM.out; omega), hb.trans (hbj.mono hz)⟩
      case measure => simp [intOf]; omega
   ·have hmT : Hid (m = T.length) := Lib.hid (by rw [HM.out, ← HTL.out]; congr 2; rw [List.take_of_length_le (by omega), List.take_of_length_le (by omega)])
    have hmd : ((m : Int) == (T.length : Int)) = true := by rw [hmT.out]; simp
    have hrs2 := hrs.below hb
    have hrx2 := hrx.below hb
    have hcl : ∀ (W' : World) (fq gq : List Nat), RdVs W' K.sig.cd [.slice ka K.sig.syms.length kc] gq → Rd W' (.sl (T.map Fm.cd)) (.slice xa T.length xc) fq → Calls Tryz.prog 17 #[.agg #[.slice ka K.sig.syms.length kc], .slice xa T.length xc] W' fun e w' => e = .returned (.bool true) ∧ Below W'.heap.size W' w' := fun W' fq gq h1 h2 => by
     have h3 := zcS K.sig T _ _ _ _ W' hbT h1 h2
     rw [HIN.out] at h3
     exact h3
    go_wp2_with fail
    refine (hcl _ _ _ (by exact hrs2) (by exact hrx2)).mono ?_
    rintro e w9 ⟨rfl, hb9⟩
    go_wp2_with fail
    go_ret
    exact ⟨rfl, (hB.trans (hb.mono hw5)).trans (hb9.mono (by have := hB.size; omega))⟩
end Go.Proofs.YtbfinjiledfpcaaGreat
end
namespace Go.Proofs.YtbfinjiledfpcaaGreat.fnStackForms
open Go Go.ChangeShapes Go.WideShapes Go.ChangeAt Go.RowKit
set_option linter.unusedVariables false
theorem own : ownKnob Tryz.prog.godebug = none := by kernel_rfl
theorem laidOut : laidOutB Tryz.prog = true := by kernel_rfl
set_option maxRecDepth 100000 in
theorem lifted (os : Os) (started : os.Started) (H : Type) (enc : TypeId × Value → H) :
  ReturnsInHanded {} Tryz.checked os 5 .any (Rows.fnStackFormsSpec.pre6 enc Tryz.prog Tryz.f5 Rows.fnStackFormsRow.domain false) (Rows.fnStackFormsSpec.post enc Tryz.prog Tryz.f5 false true false false) := by
 refine returnsInHanded_of_change (C := Tryz.checked) own started (by kernel_rfl) Tryz.func5
  (ChangeSpec.witness6 (enc := enc) (C := Tryz.checked) false ⟨#[], #[.slice none 0 0], []⟩ 8 (by kernel_rfl) (by kernel_rfl) (by kernel_rfl) (by kernel_rfl)) ?_
 intro W base args ds gs before hval0 hW hcnd _
 have hval : ∀ (j : Nat) t v, Tryz.f5.params[j]? = some t → args[j]? = some v → Value.okWide Tryz.prog W .any base t v := hval0
 have hW' := hW
 obtain ⟨p, q, hA0, hV, rfl, hfz, hnd⟩ := hW
 have hA : DataW.TrodAll enc Tryz.prog W 0 (fun _ => true) true Tryz.f5.params.toList args.toList ds p := hA0
 rw [Tryz.params5] at hA hval
 obtain ⟨v0, vs0, d0, ds0, p0, q0, hargs, rfl, rfl, h0, r0⟩ := trodAll_cons hA
 obtain ⟨rfl, rfl, rfl⟩ := trodAll_nil r0
 obtain rfl : args = #[v0] := by cases args; simp_all
 obtain ⟨rfl, rfl⟩ := trodVars_none hV
 obtain ⟨a0, len0, cap0, rfl⟩ := okWide_slice Tryz.underlying22 (hval 0 22 v0 rfl rfl)
 have k0 := h0
 have lt0 : ∀ x ∈ p0, x.block < W.heap.size := by obtain ⟨m, hm⟩ := k0; exact DataW.trod_lt m _ _ _ hm
 have hr0 : Byts W (.slice a0 len0 cap0) := by
  obtain ⟨fuel, hf⟩ := h0
  obtain ⟨v, hv, hr⟩ := zdQ fuel _ _ hf
  exact list1 hv ▸ hr
 clear hA0 hval0
 have hwalk := zcn _ W hr0
 refine hwalk.mono fun e W' ⟨he, bel⟩ => ?_
 subst he
 exact ⟨_, rfl, _, _, _, [], _, [], hW', trodAll_mk1 (shut_bool Tryz.underlying4 _), (trodAll_cons_mk (Below.trod laidOut (by kernel_rfl) (of_decide_eq_true (by kernel_rfl)) k0 bel lt0) trodAll_mk0), rfl, bel.frame _, fun h => by cases h⟩
theorem named : Tryz.pinned.checked.prog.funcNamed Rows.fnStackFormsRow.func = some 5 := by kernel_rfl
theorem and2 {a b : Bool} (h : a = true) (h' : b = true) : (a && b) = true := by rw [h, h']; rfl
set_option maxHeartbeats 8000000 in
theorem closed : joinedFacts Tryz.pinned.checked.prog 5 Tryz.f5 Rows.fnStackFormsSpec Rows.fnStackFormsRow = true := by
 unfold joinedFacts
 repeat' (with_reducible refine and2 ?_ ?_)
 all_goals (as_aux_lemma => kernel_rfl)
theorem plain : Tryz.f5.isInstance Tryz.pinned.checked.prog Rows.fnStackFormsRow.origin Rows.fnStackFormsRow.targs := of_decide_eq_true (by kernel_rfl)
theorem bare : Tryz.f5.isWrapper Tryz.pinned.checked.prog Rows.fnStackFormsRow.wrapper Rows.fnStackFormsRow.mainSum := by unfold Func.isWrapper; first | (rw [if_pos (by decide +kernel)]; kernel_rfl) | (rw [if_neg (by decide +kernel)]; exact ⟨rfl, rfl⟩)
theorem over : Rows.fnStackFormsRow.holds Tryz.pinned (OpenSpec.ofChange Rows.fnStackFormsSpec) :=
 OpenClaim.holds_of_wide 5 Tryz.f5 rfl rfl rfl rfl rfl rfl rfl ⟨rfl, rfl, rfl, rfl, rfl⟩ rfl rfl rfl rfl rfl named Tryz.func5 closed plain bare
  (fun os started H enc _ => lifted os started H enc)
theorem proved : Rows.FnStackFormsSaid := over
end Go.Proofs.YtbfinjiledfpcaaGreat.fnStackForms
