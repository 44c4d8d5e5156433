/- Parts of the proof: SameE StkY. -/
import Derived.Test.YticlgpkjdmcnaaaPa16
import Derived.Test.YticlgpkjdmcnaaaPa41
section
namespace Go.Proofs.Yticlgpkjdmcnaaa
open Go Go.RowKit
set_option linter.unusedVariables false
set_option linter.unusedSimpArgs false
set_option maxRecDepth 100000
set_option maxHeartbeats 16000000
theorem sameSgS_x (x y : Sg) (vs us : List Value) (f f' : List Nat) (w : World) (hv : RdVs w x.cd vs f) (hx : RdVs w y.cd us f') :
  Calls Try.prog 19 #[.agg vs.toArray, .agg us.toArray] w fun e w' => e = .returned (.bool (eqV x.cd y.cd)) ∧ Below w.heap.size w w' := by
 obtain ⟨a0, c0, f0, rfl, _, m0⟩ := Sg.open hv
 obtain ⟨a0', c0', f0', rfl, _, m0'⟩ := Sg.open hx
 have hlen := zap m0
 by_cases tk : x.syms.length = y.syms.length
 rotate_left
 ·have tf : ((x.syms.length : Int) != (y.syms.length : Int)) = true := by rw [bne_iff_ne]; omega
  have HF := Lib.hid (Sg.eqv_syms (x := x) (y := y) (zaF tk))
  clear tk
  go_enter Try.func19, Try.ntmps19
  go_wp2_with fail
  go_ret
  exact ⟨retB HF.out.symm, ((Below.refl _ _).alloc (Nat.le_refl _) _).alloc (by simp) _⟩
 have tq : ((x.syms.length : Int) != (y.syms.length : Int)) = false := by rw [tk]; simp
 have tl : x.syms.length ≤ y.syms.length := by omega
 have tm : y.syms.length ≤ x.syms.length := by omega
 clear tk
 go_enter Try.func19, Try.ntmps19
 go_wp2_with fail
 go_loopw [5] (fun i wq => ∃ k : Nat, k ≤ x.syms.length ∧ i = .int .i64 k ∧ Hid (Alike Sy.cd x.syms y.syms k) ∧ Below ((w.alloc (.cells #[.slice a0 x.syms.length c0] 25)).alloc (.cells #[.slice a0' y.syms.length c0'] 25)).heap.size ((w.alloc (.cells #[.slice a0 x.syms.length c0] 25)).alloc (.cells #[.slice a0' y.syms.length c0'] 25)) wq) (fun i _ => x.syms.length - (intOf i).toNat)
 case atStart => exact ⟨0, Nat.zero_le _, rfl, Lib.hid Alike.zero, Below.refl _ _⟩
 case round =>
  obtain ⟨k, hkl, rfl, hall, hL⟩ := hrel
  obtain ⟨hxL, hyL, hzL, hBL⟩ := box2 (w := w) (wr := wr) (cs := #[.slice a0 x.syms.length c0]) (ds := #[.slice a0' y.syms.length c0']) (T := 25) (U := 25) (zt hL (by simp))
  have cx := hxL 0
  have cy := hyL 0
  simp only [zd2, zd0, zd1] at cx cy
  by_cases hlt : k < x.syms.length
  ·obtain ⟨b, off, rfl, hbs, _⟩ := zp m0 (by omega)
   obtain ⟨b', off', rfl, hbs', _⟩ := zp m0' (by omega)
   have hlt' : k < y.syms.length := by omega
   have hbz : b' < wr.heap.size := by omega
   have hbz2 : b < wr.heap.size := by omega
   have hz0 : w.heap.size < wr.heap.size := by omega
   have hz1 : w.heap.size + 1 < wr.heap.size := by omega
   obtain ⟨ea1, ec1, ef1, d0, d1, d2, em0, em1, em2, _⟩ := Sy.at (m0.below hBL) hlt
   obtain ⟨ea1', ec1', ef1', d0', d1', d2', em0', em1', em2', _⟩ := Sy.at (m0'.below hBL) hlt'
   have hlen2 := zap em1
   by_cases tn : x.syms[k].name.toList = y.syms[k].name.toList
   rotate_left
   ·have HF := Lib.hid (Sg.eqv_syms (x := x) (y := y) (zV hlt hlt' (Sy.eqv_name (decide_eq_false (fun h => tn (zan.2 h))))))
    go_wp2_with fail
    go_ret
    exact ⟨retB HF.out.symm, (hBL.alloc (by omega) _).alloc (by simp; omega) _⟩
   have HT_name := Lib.hid (decide_eq_true (zan.1 tn))
   cases ts : (x.syms[k].sort == y.syms[k].sort)
   ·have HF := Lib.hid (Sg.eqv_syms (x := x) (y := y) (zV hlt hlt' (Sy.eqv_sort ts)))
    have tsn : (x.syms[k].sort != y.syms[k].sort) = true := by rw [bne, ts]; rfl
    go_wp2_with fail
    go_ret
    exact ⟨retB HF.out.symm, (hBL.alloc (by omega) _).alloc (by simp; omega) _⟩
   have HT_sort := Lib.hid ts
   have tsn : (x.syms[k].sort != y.syms[k].sort) = false := by rw [bne, ts]; rfl
   by_cases ta : x.syms[k].args.length = y.syms[k].args.length
   rotate_left
   ·have HF := Lib.hid (Sg.eqv_syms (x := x) (y := y) (zV hlt hlt' (Sy.eqv_args (zaF ta))))
    have tan : ((x.syms[k].args.length : Int) != (y.syms[k].args.length : Int)) = true := by rw [bne_iff_ne]; omega
    clear ta
    go_wp2_with fail
    go_ret
    exact ⟨retB HF.out.symm, (hBL.alloc (by omega) _).alloc (by simp; omega) _⟩
   have taq : ((x.syms[k].args.length : Int) != (y.syms[k].args.length : Int)) = false := by rw [ta]; simp
   have tal : x.syms[k].args.length ≤ y.syms[k].args.length := by omega
   have tam : y.syms[k].args.length ≤ x.syms[k].args.length := by omega
   clear ta
   go_wp2_with fail
   go_loopw [8] (fun i wq => ∃ j : Nat, j ≤ x.syms[k].args.length ∧ i = .int .i64 j ∧ Hid (Alike zq x.syms[k].args y.syms[k].args j) ∧ Below ((wr.alloc (.cells #[.string x.syms[k].name, .slice ea1 x.syms[k].args.length ec1, .int .i64 x.syms[k].sort] 72)).alloc (.cells #[.string y.syms[k].name, .slice ea1' y.syms[k].args.length ec1', .int .i64 y.syms[k].sort] 72)).heap.size ((wr.alloc (.cells #[.string x.syms[k].name, .slice ea1 x.syms[k].args.length ec1, .int .i64 x.syms[k].sort] 72)).alloc (.cells #[.string y.syms[k].name, .slice ea1' y.syms[k].args.length ec1', .int .i64 y.syms[k].sort] 72)) wq) (fun i _ => x.syms[k].args.length - (intOf i).toNat)
   case atStart => exact ⟨0, Nat.zero_le _, rfl, Lib.hid Alike.zero, Below.refl _ _⟩
   case round =>
    obtain ⟨j, hjl, rfl, hallj, hM⟩ := hrel
    obtain ⟨hxM, hyM, hzM, hBM⟩ := box2 (cs := #[.string x.syms[k].name, .slice ea1 x.syms[k].args.length ec1, .int .i64 x.syms[k].sort]) (ds := #[.string y.syms[k].name, .slice ea1' y.syms[k].args.length ec1', .int .i64 y.syms[k].sort]) (T := 72) (U := 72) (zt hM (by simp))
    have ex := hxM 1
    have ey := hyM 1
    have hLM := hL.trans (hBM.mono hL.size)
    have hBLM := hBL.trans (hBM.mono (by omega))
    have em1w := em1.below hBM
    have em1w' := em1'.below hBM
    simp only [zd2, zd0, zd1] at ex ey
    clear d0 d1 d2 d0' d1' d2' hxL hyL cx cy hxM hyM
    by_cases hjt : j < x.syms[k].args.length
    ·obtain ⟨eb, eo, rfl, ebs, _⟩ := zp em1w (by omega)
     obtain ⟨eb', eo', rfl, ebs', _⟩ := zp em1w' (by omega)
     have hjt' : j < y.syms[k].args.length := by omega
     obtain ⟨g0, _⟩ := zag em1w hjt
     obtain ⟨g0', _⟩ := zag em1w' hjt'
     cases he : (x.syms[k].args[j] == y.syms[k].args[j])
     all_goals have HE0 : Hid (eqV (zq x.syms[k].args[j]) (zq y.syms[k].args[j]) = (x.syms[k].args[j] == y.syms[k].args[j])) := Lib.hid (by simp only [zq, za9]; rfl)
     ·have HF := Lib.hid (Sg.eqv_syms (x := x) (y := y) (zV hlt hlt' (Sy.eqv_args (zV hjt hjt' (HE0.out.trans he)))))
      have hne : (x.syms[k].args[j] != y.syms[k].args[j]) = true := by rw [bne, he]; rfl
      go_wp2_with fail
      have q0 := cell_regrown g0
      have q0' := cell_regrown g0'
      have qx := cell_regrown ex
      have qy := cell_regrown ey
      refine wp_region_quiet_below (by kernel_rfl) (by kernel_rfl) ?_
      repeat (quiet_step (fail))
      refine wpQuiet_nil ?_
      intro wq0 hwq
      obtain ⟨⟨dq, osq⟩, hwq⟩ := hwq
      have hbq0 : Below wr.heap.size wr wq0 := hwq ▸ below_regrown wr dq osq
      clear hwq q0 q0' qx qy
      go_wp2_with fail
      go_ret
      exact ⟨retB HF.out.symm, hBLM.trans (hbq0.mono (by omega))⟩
     ·have HE := Lib.hid (HE0.out.trans he)
      have hne : (x.syms[k].args[j] != y.syms[k].args[j]) = false := by rw [bne, he]; rfl
      go_wp2_with fail
      have q0 := cell_regrown g0
      have q0' := cell_regrown g0'
      have qx := cell_regrown ex
      have qy := cell_regrown ey
      refine wp_region_quiet_below (by kernel_rfl) (by kernel_rfl) ?_
      repeat (quiet_step (fail))
      refine wpQuiet_nil ?_
      intro wq0 hwq
      obtain ⟨⟨dq, osq⟩, hwq⟩ := hwq
      have hbq0 : Below wr.heap.size wr wq0 := hwq ▸ below_regrown wr dq osq
      clear hwq q0 q0' qx qy
      go_wp2_with fail
      go_roundw
      case rel => exact ⟨j + 1, by omega, by go_num, hallj.out.succ hjt hjt' HE.out, hM.trans (hbq0.mono (by have := hM.size; omega))⟩
      case measure => simp [intOf]; omega
    ·have HE := Lib.hid (show eqV x.syms[k].cd y.syms[k].cd = true from by rw [Sy.eqv, HT_name.out, hallj.out.all (by omega) (by omega), HT_sort.out]; rfl)
     go_wp2_with fail
     go_roundw
     case rel => exact ⟨k + 1, by omega, by go_num, hall.out.succ hlt hlt' HE.out, hLM⟩
     case measure => simp [intOf]; omega
  ·have HT := Lib.hid (hall.out.all (by omega) (by omega))
   go_wp2_with fail
   go_ret
   exact ⟨retB (by rw [Sg.eqv, HT.out]), hBL⟩
theorem zdW (x y : Stk) (vs us : List Value) (f f' : List Nat) (w : World) (hv : RdVs w x.cd vs f) (hx : RdVs w y.cd us f') :
  Calls Try.prog 6 #[.agg vs.toArray, .agg us.toArray] w fun e w' => e = .returned (.bool (eqV x.cd y.cd)) ∧ Below w.heap.size w w' := by
 obtain ⟨a0, c0, f0, a1, c1, f1, rfl, _, m0, m1⟩ := Stk.open hv
 obtain ⟨a0', c0', f0', a1', c1', f1', rfl, _, m0', m1'⟩ := Stk.open hx
 have hlen := zap m1
 go_enter Try.func6, Try.ntmps6
 go_wp2_with fail
 refine (sameSgS_x x.sig y.sig _ _ _ _ _ (by exact (Sg.close m0).below (((Below.refl _ _).alloc (Nat.le_refl _) _).alloc (by simp) _)) (by exact (Sg.close m0').below (((Below.refl _ _).alloc (Nat.le_refl _) _).alloc (by simp) _))).mono ?_
 rintro e w1 ⟨rfl, hb1⟩
 obtain ⟨hx1, hy1, hz1, hB1⟩ := box2 (w := w) (wr := w1) (cs := #[.slice a0 x.sig.syms.length c0, .slice a1 x.levels.length c1]) (ds := #[.slice a0' y.sig.syms.length c0', .slice a1' y.levels.length c1']) (T := 28) (U := 28) (zt hb1 (by simp))
 cases hq1 : eqV x.sig.cd y.sig.cd
 ·have HF := Lib.hid (Stk.eqv_sig hq1)
  clear hq1
  go_wp2_with fail
  go_ret
  exact ⟨retB HF.out.symm, hB1⟩
 have HT_sig := Lib.hid hq1
 clear hq1
 by_cases tk : x.levels.length = y.levels.length
 rotate_left
 ·have tf : ((x.levels.length : Int) != (y.levels.length : Int)) = true := by rw [bne_iff_ne]; omega
  have HF := Lib.hid (Stk.eqv_levels (x := x) (y := y) (zaF tk))
  clear tk
  go_wp2_with fail
  go_ret
  exact ⟨retB HF.out.symm, hB1⟩
 have tq : ((x.levels.length : Int) != (y.levels.length : Int)) = false := by rw [tk]; simp
 have tl : x.levels.length ≤ y.levels.length := by omega
 have tm : y.levels.length ≤ x.levels.length := by omega
 clear tk
 go_wp2_with fail
 go_loopw [5] (fun i wq => ∃ k : Nat, k ≤ x.levels.length ∧ i = .int .i64 k ∧ Hid (Alike zx x.levels y.levels k) ∧ Below w1.heap.size w1 wq) (fun i _ => x.levels.length - (intOf i).toNat)
 case atStart => exact ⟨0, Nat.zero_le _, rfl, Lib.hid Alike.zero, Below.refl _ _⟩
 case round =>
  obtain ⟨k, hkl, rfl, hall, hL⟩ := hrel
  have hBL := hB1.trans (hL.mono (by omega))
  have hxL := zd hx1 (by omega) hL
  have hyL := zd hy1 (by omega) hL
  have hzL := Nat.le_trans hz1 hL.size
  have cx := hxL 1
  have cy := hyL 1
  simp only [zd2, zd0, zd1] at cx cy
  by_cases hlt : k < x.levels.length
  ·obtain ⟨b, off, rfl, hbs, _⟩ := zp m1 (by omega)
   obtain ⟨b', off', rfl, hbs', _⟩ := zp m1' (by omega)
   have hlt' : k < y.levels.length := by omega
   obtain ⟨la, lc, lf, d0, em0, _⟩ := zaN (m1.below hBL) hlt
   obtain ⟨la', lc', lf', d0', em0', _⟩ := zaN (m1'.below hBL) hlt'
   have hlen2 := zap em0
   by_cases ta : x.levels[k].length = y.levels[k].length
   rotate_left
   ·have HF := Lib.hid (Stk.eqv_levels (x := x) (y := y) (zV hlt hlt' ((zcq _ _).trans (zaF ta))))
    have tan : ((x.levels[k].length : Int) != (y.levels[k].length : Int)) = true := by rw [bne_iff_ne]; omega
    clear ta
    go_wp2_with fail
    have qd0 := cell_regrown d0
    have qd0' := cell_regrown d0'
    have qcx := cell_regrown cx
    have qcy := cell_regrown cy
    refine wp_region_quiet_below (by kernel_rfl) (by kernel_rfl) ?_
    repeat (quiet_step (fail))
    refine wpQuiet_nil ?_
    intro wq0 hwq
    obtain ⟨⟨dq, osq⟩, hwq⟩ := hwq
    have hbq0 : Below wr.heap.size wr wq0 := hwq ▸ below_regrown wr dq osq
    clear hwq qd0 qd0' qcx qcy
    go_wp2_with fail
    go_ret
    exact ⟨retB HF.out.symm, hBL.trans (hbq0.mono (by omega))⟩
   have taq : ((x.levels[k].length : Int) != (y.levels[k].length : Int)) = false := by rw [ta]; simp
   have tal : x.levels[k].length ≤ y.levels[k].length := by omega
   have tam : y.levels[k].length ≤ x.levels[k].length := by omega
   clear ta
   go_wp2_with fail
   have qd0 := cell_regrown d0
   have qd0' := cell_regrown d0'
   have qcx := cell_regrown cx
   have qcy := cell_regrown cy
   refine wp_region_quiet_below (by kernel_rfl) (by kernel_rfl) ?_
   repeat (quiet_step (fail))
   refine wpQuiet_nil ?_
   intro wq0 hwq
   obtain ⟨⟨dq, osq⟩, hwq⟩ := hwq
   have hbq0 : Below wr.heap.size wr wq0 := hwq ▸ below_regrown wr dq osq
   clear hwq qd0 qd0' qcx qcy
   go_wp2_with fail
   go_loopw [6] (fun i wq => ∃ j : Nat, j ≤ x.levels[k].length ∧ i = .int .i64 j ∧ Hid (Alike Fm.cd x.levels[k] y.levels[k] j) ∧ Below wr.heap.size wr wq) (fun i _ => x.levels[k].length - (intOf i).toNat)
   case atStart => exact ⟨0, Nat.zero_le _, rfl, Lib.hid Alike.zero, hbq0⟩
   case round =>
    obtain ⟨j, hjl, rfl, hallj, hM⟩ := hrel
    have hLM := hL.trans (hM.mono hL.size)
    have hBLM := hBL.trans (hM.mono (by omega))
    have cxM := za cx hM
    have cyM := za cy hM
    have e0 := za d0 hM
    have e0' := za d0' hM
    have em0w := em0.below hM
    have em0w' := em0'.below hM
    clear d0 d0' hxL hyL cx cy
    by_cases hjt : j < x.levels[k].length
    ·obtain ⟨eb, eo, rfl, ebs, _⟩ := zp em0w (by omega)
     obtain ⟨eb', eo', rfl, ebs', _⟩ := zp em0w' (by omega)
     have hjt' : j < y.levels[k].length := by omega
     obtain ⟨ga3, gc3, gf3, ga5, gc5, gf5, ga6, gc6, gf6, ga7, gc7, gf7, ga11, gc11, gf11, gg0, gg1, gg2, gg3, gg4, gg5, gg6, gg7, gg8, gg9, gg10, gg11, n0, n1, n2, n3, n4, n5, n6, n7, n8, n9, _⟩ := Fm.at em0w hjt
     obtain ⟨ga3', gc3', gf3', ga5', gc5', gf5', ga6', gc6', gf6', ga7', gc7', gf7', ga11', gc11', gf11', gg0', gg1', gg2', gg3', gg4', gg5', gg6', gg7', gg8', gg9', gg10', gg11', n0', n1', n2', n3', n4', n5', n6', n7', n8', n9', _⟩ := Fm.at em0w' hjt'
     cases he : eqV x.levels[k][j].cd y.levels[k][j].cd
     ·have HF := Lib.hid (Stk.eqv_levels (x := x) (y := y) (zV hlt hlt' ((zcq _ _).trans (zV hjt hjt' he))))
      go_wp2_with fail
      have qgg0 := cell_regrown gg0
      have qgg1 := cell_regrown gg1
      have qgg2 := cell_regrown gg2
      have qgg3 := cell_regrown gg3
      have qgg4 := cell_regrown gg4
      have qgg5 := cell_regrown gg5
      have qgg6 := cell_regrown gg6
      have qgg7 := cell_regrown gg7
      have qgg8 := cell_regrown gg8
      have qgg9 := cell_regrown gg9
      have qgg10 := cell_regrown gg10
      have qgg11 := cell_regrown gg11
      have qgg0' := cell_regrown gg0'
      have qgg1' := cell_regrown gg1'
      have qgg2' := cell_regrown gg2'
      have qgg3' := cell_regrown gg3'
      have qgg4' := cell_regrown gg4'
      have qgg5' := cell_regrown gg5'
      have qgg6' := cell_regrown gg6'
      have qgg7' := cell_regrown gg7'
      have qgg8' := cell_regrown gg8'
      have qgg9' := cell_regrown gg9'
      have qgg10' := cell_regrown gg10'
      have qgg11' := cell_regrown gg11'
      have qcxM := cell_regrown cxM
      have qcyM := cell_regrown cyM
      have qe0 := cell_regrown e0
      have qe0' := cell_regrown e0'
      refine wp_region_quiet_below (by kernel_rfl) (by kernel_rfl) ?_
      repeat (quiet_step (refine Calls.regrown_of (zcK x.levels[k][j] y.levels[k][j] _ _ _ _ _ ((Fm.close n0 n1 n2 n3 n4 n5 n6 n7 n8 n9).below (below_regrown _ _ _)) ((Fm.close n0' n1' n2' n3' n4' n5' n6' n7' n8' n9').below (below_regrown _ _ _)))))
      refine wpQuiet_nil ?_
      intro wq1 hwq
      obtain ⟨⟨dq, osq⟩, hwq⟩ := hwq
      have hbq1 : Below wr.heap.size wr wq1 := hwq ▸ below_regrown wr dq osq
      clear hwq qgg0 qgg1 qgg2 qgg3 qgg4 qgg5 qgg6 qgg7 qgg8 qgg9 qgg10 qgg11 qgg0' qgg1' qgg2' qgg3' qgg4' qgg5' qgg6' qgg7' qgg8' qgg9' qgg10' qgg11' qcxM qcyM qe0 qe0'
      go_wp2_with fail
      go_ret
      exact ⟨retB HF.out.symm, hBLM.trans (hbq1.mono (by have := hBLM.size; omega))⟩
     ·have HE := Lib.hid he
      go_wp2_with fail
      have qgg0 := cell_regrown gg0
      have qgg1 := cell_regrown gg1
      have qgg2 := cell_regrown gg2
      have qgg3 := cell_regrown gg3
      have qgg4 := cell_regrown gg4
      have qgg5 := cell_regrown gg5
      have qgg6 := cell_regrown gg6
      have qgg7 := cell_regrown gg7
      have qgg8 := cell_regrown gg8
      have qgg9 := cell_regrown gg9
      have qgg10 := cell_regrown gg10
      have qgg11 := cell_regrown gg11
      have qgg0' := cell_regrown gg0'
      have qgg1' := cell_regrown gg1'
      have qgg2' := cell_regrown gg2'
      have qgg3' := cell_regrown gg3'
      have qgg4' := cell_regrown gg4'
      have qgg5' := cell_regrown gg5'
      have qgg6' := cell_regrown gg6'
      have qgg7' := cell_regrown gg7'
      have qgg8' := cell_regrown gg8'
      have qgg9' := cell_regrown gg9'
      have qgg10' := cell_regrown gg10'
      have qgg11' := cell_regrown gg11'
      have qcxM := cell_regrown cxM
      have qcyM := cell_regrown cyM
      have qe0 := cell_regrown e0
      have qe0' := cell_regrown e0'
      refine wp_region_quiet_below (by kernel_rfl) (by kernel_rfl) ?_
      repeat (quiet_step (refine Calls.regrown_of (zcK x.levels[k][j] y.levels[k][j] _ _ _ _ _ ((Fm.close n0 n1 n2 n3 n4 n5 n6 n7 n8 n9).below (below_regrown _ _ _)) ((Fm.close n0' n1' n2' n3' n4' n5' n6' n7' n8' n9').below (below_regrown _ _ _)))))
      refine wpQuiet_nil ?_
      intro wq1 hwq
      obtain ⟨⟨dq, osq⟩, hwq⟩ := hwq
      have hbq1 : Below wr.heap.size wr wq1 := hwq ▸ below_regrown wr dq osq
      clear hwq qgg0 qgg1 qgg2 qgg3 qgg4 qgg5 qgg6 qgg7 qgg8 qgg9 qgg10 qgg11 qgg0' qgg1' qgg2' qgg3' qgg4' qgg5' qgg6' qgg7' qgg8' qgg9' qgg10' qgg11' qcxM qcyM qe0 qe0'
      go_wp2_with fail
      go_roundw
      case rel => exact ⟨j + 1, by omega, by go_num, hallj.out.succ hjt hjt' HE.out, hM.trans (hbq1.mono (by have := hM.size; omega))⟩
      case measure => simp [intOf]; omega
    ·have HE := Lib.hid (show eqV (zx x.levels[k]) (zx y.levels[k]) = true from by rw [zcq]; exact hallj.out.all (by omega) (by omega))
     go_wp2_with fail
     go_roundw
     case rel => exact ⟨k + 1, by omega, by go_num, hall.out.succ hlt hlt' HE.out, hLM⟩
     case measure => simp [intOf]; omega
  ·have HT := Lib.hid (hall.out.all (by omega) (by omega))
   go_wp2_with fail
   go_ret
   exact ⟨retB (by rw [Stk.eqv, HT_sig.out, HT.out]; rfl), hBL⟩
theorem zdw (K : Stk) : Stk.mk K.sig K.levels = K := by cases K; rfl
theorem tell_wt {K T : Stk} {f : Fm} {b : Bool} (h : K.tell f = (T, b)) : wtV T.cd ≤ wtV K.cd + (wtV f.cd + 1) := by
 unfold Stk.tell at h
 split at h
 ·rename_i hk
  split at h
  ·simp only [Prod.mk.injEq] at h
   rcases List.eq_nil_or_concat K.levels with h1 | ⟨a, l, h1⟩
   ·have := (Stk.okK_len hk).1; rw [h1] at this; simp at this
   ·rw [← h.1, zc9 (a := a) (l := l) (by rw [h1, List.concat_eq_append])]
    exact Nat.le_refl _
  ·simp only [Prod.mk.injEq] at h
   rw [← h.1]; omega
 ·simp only [Prod.mk.injEq] at h
  rw [← h.1, zS]
  simp [wtR, Sg.cd, wtV, wtC]
theorem push_wt {K P : Stk} {b : Bool} (h : K.push = (P, b)) : wtV P.cd ≤ wtV K.cd + 1 := by
 unfold Stk.push at h
 split at h
 ·split at h
  ·simp only [Prod.mk.injEq] at h
   rw [← h.1, zS]
   conv => rhs; rw [← zdw K]
   rw [zS]
   simp only [zd8, List.map_cons, List.map_nil, zU, wtR, zx, wtV, wtC, zd7, List.length_cons, List.length_nil]
   omega
  ·simp only [Prod.mk.injEq] at h
   rw [← h.1]; omega
 ·simp only [Prod.mk.injEq] at h
  rw [← h.1, zS]
  simp [wtR, Sg.cd, wtV, wtC]
end Go.Proofs.Yticlgpkjdmcnaaa
end
