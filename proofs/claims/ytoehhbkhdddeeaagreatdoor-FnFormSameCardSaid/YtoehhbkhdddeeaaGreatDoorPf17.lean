/- Parts of the proof: SameC. -/
import Derived.Test.YtoehhbkhdddeeaaGreatDoorPf16
section
namespace Go.Proofs.YtoehhbkhdddeeaaGreatDoor
open Go Go.RowKit
set_option linter.unusedVariables false
set_option linter.unusedSimpArgs false
set_option maxRecDepth 100000
set_option maxHeartbeats 16000000
theorem zdg (x y : Tm) (vs us : List Value) (f f' : List Nat) (w : World) (hv : RdVs w x.cd vs f) (hx : RdVs w y.cd us f') :
  Calls Tryz.prog 20 #[.agg vs.toArray, .agg us.toArray] w fun e w' => e = .returned (.bool (eqV x.cd y.cd)) ∧ Below w.heap.size w w' := by
 obtain ⟨a1, c1, f1, rfl, _, m0, m1⟩ := Tm.open hv
 obtain ⟨a1', c1', f1', rfl, _, m0', m1'⟩ := Tm.open hx
 rw [← Tm.beq_cd]
 exact zbb _ x y _ _ w (Nat.le_refl _) (TmR.mk m0 ⟨_, m1⟩) (TmR.mk m0' ⟨_, m1'⟩)
theorem zaV (x y : Tm) (vs us : List Value) (f f' : List Nat) (w : World) (hv : RdVs w x.cd vs f) (hx : RdVs w y.cd us f') :
  Calls Tryz.prog 23 #[.agg vs.toArray, .agg us.toArray] w fun e w' => e = .returned (.bool (eqV x.cd y.cd)) ∧ Below w.heap.size w w' := by
 obtain ⟨a1, c1, f1, rfl, _, m0, m1⟩ := Tm.open hv
 obtain ⟨a1', c1', f1', rfl, _, m0', m1'⟩ := Tm.open hx
 rw [← Tm.beq_cd]
 exact zaJ _ x y _ _ w (Nat.le_refl _) (TmR.mk m0 ⟨_, m1⟩) (TmR.mk m0' ⟨_, m1'⟩)
theorem zdy (xs ys : List Tm) (v u : Value) (f f' : List Nat) (w : World) (hv : Rd w (.sl (xs.map Tm.cd)) v f) (hx : Rd w (.sl (ys.map Tm.cd)) u f') :
  Calls Tryz.prog 21 #[v, u, .func (.func 20) #[] #[]] w fun e w' => e = .returned (.bool (eqR (xs.map Tm.cd) (ys.map Tm.cd))) ∧ Below w.heap.size w w' := by
 rw [← Tm.beqs_cd]
 exact zaK (Tm.sizes xs) (zbb _) xs ys v u w (fun t ht => Tm.size_mem ht) ⟨f, hv⟩ ⟨f', hx⟩
theorem zbw (x y : Atm) (vs us : List Value) (f f' : List Nat) (w : World) (hv : RdVs w x.cd vs f) (hx : RdVs w y.cd us f') :
  Calls Tryz.prog 12 #[.agg vs.toArray, .agg us.toArray] w fun e w' => e = .returned (.bool (eqV x.cd y.cd)) ∧ Below w.heap.size w w' := by
 obtain ⟨a2, c2, f2, a4, c4, f4, a5, c5, f5, a6, c6, f6, rfl, _, m0, m1, m2, m3, m4, m5, m6, m7⟩ := Atm.open hv
 obtain ⟨a2', c2', f2', a4', c4', f4', a5', c5', f5', a6', c6', f6', rfl, _, m0', m1', m2', m3', m4', m5', m6', m7'⟩ := Atm.open hx
 go_enter Tryz.func12, Tryz.ntmps12
 cases tk1 : (x.kind == y.kind)
 ·have HF := Lib.hid (Atm.eqv_kind tk1)
  go_wp2_with fail
  go_ret
  exact ⟨retB HF.out.symm, (((Below.refl _ _).alloc (Nat.le_refl _) _).alloc (by simp) _)⟩
 have HT_kind := Lib.hid tk1
 go_wp2_with fail
 refine (zdg x.a y.a _ _ _ _ _ (by exact (Tm.close m1 m2).below (((Below.refl _ _).alloc (Nat.le_refl _) _).alloc (by simp) _)) (by exact (Tm.close m1' m2').below (((Below.refl _ _).alloc (Nat.le_refl _) _).alloc (by simp) _))).mono ?_
 rintro e w1 ⟨rfl, hb1⟩
 obtain ⟨hx1, hy1, hz1, hB1⟩ := box2 (w := w) (wr := w1) (cs := #[.int .i64 x.kind, .string x.a.name, .slice a2 x.a.kids.length c2, .string x.b.name, .slice a4 x.b.kids.length c4, .slice a5 x.nums.length c5, .slice a6 x.times.length c6, .int .i64 x.bound, .bool x.strict]) (ds := #[.int .i64 y.kind, .string y.a.name, .slice a2' y.a.kids.length c2', .string y.b.name, .slice a4' y.b.kids.length c4', .slice a5' y.nums.length c5', .slice a6' y.times.length c6', .int .i64 y.bound, .bool y.strict]) (T := 28) (U := 28) (zs hb1 (by simp))
 cases hq1 : eqV x.a.cd y.a.cd
 ·have HF := Lib.hid (Atm.eqv_a hq1)
  clear hq1
  go_wp2_with fail
  go_ret
  exact ⟨retB HF.out.symm, hB1⟩
 have HT_a := Lib.hid hq1
 clear hq1
 go_wp2_with fail
 refine (zdg x.b y.b _ _ _ _ _ (by exact (Tm.close m3 m4).below hB1) (by exact (Tm.close m3' m4').below hB1)).mono ?_
 rintro e w2 ⟨rfl, hb2⟩
 have hB2 := hB1.trans (hb2.mono (by omega))
 have hx2 := zf hx1 (by omega) hb2
 have hy2 := zf hy1 (by omega) hb2
 have hz2 := Nat.le_trans hz1 hb2.size
 clear hx1 hy1
 cases hq2 : eqV x.b.cd y.b.cd
 ·have HF := Lib.hid (Atm.eqv_b hq2)
  clear hq2
  go_wp2_with fail
  go_ret
  exact ⟨retB HF.out.symm, hB2⟩
 have HT_b := Lib.hid hq2
 clear hq2
 go_wp2_with fail
 refine (zdy x.nums y.nums _ _ _ _ _ (by exact m5.below hB2) (by exact m5'.below hB2)).mono ?_
 rintro e w3 ⟨rfl, hb3⟩
 have hB3 := hB2.trans (hb3.mono (by omega))
 have hx3 := zf hx2 (by omega) hb3
 have hy3 := zf hy2 (by omega) hb3
 have hz3 := Nat.le_trans hz2 hb3.size
 clear hx2 hy2
 cases hq3 : eqR (x.nums.map Tm.cd) (y.nums.map Tm.cd)
 ·have HF := Lib.hid (Atm.eqv_nums hq3)
  clear hq3
  go_wp2_with fail
  go_ret
  exact ⟨retB HF.out.symm, hB3⟩
 have HT_nums := Lib.hid hq3
 clear hq3
 go_wp2_with fail
 refine (zcM x.times y.times _ _ _ _ _ (by exact m6.below hB3) (by exact m6'.below hB3)).mono ?_
 rintro e w4 ⟨rfl, hb4⟩
 have hB4 := hB3.trans (hb4.mono (by omega))
 have hx4 := zf hx3 (by omega) hb4
 have hy4 := zf hy3 (by omega) hb4
 have hz4 := Nat.le_trans hz3 hb4.size
 clear hx3 hy3
 cases hq4 : eqR (x.times.map zm) (y.times.map zm)
 ·have HF := Lib.hid (Atm.eqv_times hq4)
  clear hq4
  go_wp2_with fail
  go_ret
  exact ⟨retB HF.out.symm, hB4⟩
 have HT_times := Lib.hid hq4
 clear hq4
 cases tk2 : (x.bound == y.bound)
 ·have HF := Lib.hid (Atm.eqv_bound tk2)
  go_wp2_with fail
  go_ret
  exact ⟨retB HF.out.symm, hB4⟩
 have HT_bound := Lib.hid tk2
 cases tk3 : (x.strict == y.strict)
 ·have HF := Lib.hid (Atm.eqv_strict tk3)
  go_wp2_with fail
  go_ret
  exact ⟨retB HF.out.symm, hB4⟩
 have HT_strict := Lib.hid tk3
 go_wp2_with fail
 go_ret
 exact ⟨retB (by rw [Atm.eqv, HT_kind.out, HT_a.out, HT_b.out, HT_nums.out, HT_times.out, HT_bound.out, HT_strict.out]; try rfl), hB4⟩
theorem zbP (x y : Atm) (vs us : List Value) (f f' : List Nat) (w : World) (hv : RdVs w x.cd vs f) (hx : RdVs w y.cd us f') :
  Calls Tryz.prog 14 #[.agg vs.toArray, .agg us.toArray] w fun e w' => e = .returned (.bool (eqV x.cd y.cd)) ∧ Below w.heap.size w w' := by
 obtain ⟨a2, c2, f2, a4, c4, f4, a5, c5, f5, a6, c6, f6, rfl, _, m0, m1, m2, m3, m4, m5, m6, m7⟩ := Atm.open hv
 obtain ⟨a2', c2', f2', a4', c4', f4', a5', c5', f5', a6', c6', f6', rfl, _, m0', m1', m2', m3', m4', m5', m6', m7'⟩ := Atm.open hx
 go_enter Tryz.func14, Tryz.ntmps14
 cases tk1 : (x.kind == y.kind)
 ·have HF := Lib.hid (Atm.eqv_kind tk1)
  have tn : (x.kind != y.kind) = true := by rw [bne, tk1]; rfl
  go_wp2_with fail
  go_ret
  exact ⟨retB HF.out.symm, (((Below.refl _ _).alloc (Nat.le_refl _) _).alloc (by simp) _)⟩
 have HT_kind := Lib.hid tk1
 have tn1 : (x.kind != y.kind) = false := by rw [bne, tk1]; rfl
 go_wp2_with fail
 refine (zaV x.a y.a _ _ _ _ _ (by exact (Tm.close m1 m2).below (((Below.refl _ _).alloc (Nat.le_refl _) _).alloc (by simp) _)) (by exact (Tm.close m1' m2').below (((Below.refl _ _).alloc (Nat.le_refl _) _).alloc (by simp) _))).mono ?_
 rintro e w1 ⟨rfl, hb1⟩
 obtain ⟨hx1, hy1, hz1, hB1⟩ := box2 (w := w) (wr := w1) (cs := #[.int .i64 x.kind, .string x.a.name, .slice a2 x.a.kids.length c2, .string x.b.name, .slice a4 x.b.kids.length c4, .slice a5 x.nums.length c5, .slice a6 x.times.length c6, .int .i64 x.bound, .bool x.strict]) (ds := #[.int .i64 y.kind, .string y.a.name, .slice a2' y.a.kids.length c2', .string y.b.name, .slice a4' y.b.kids.length c4', .slice a5' y.nums.length c5', .slice a6' y.times.length c6', .int .i64 y.bound, .bool y.strict]) (T := 28) (U := 28) (zs hb1 (by simp))
 cases hq1 : eqV x.a.cd y.a.cd
 ·have HF := Lib.hid (Atm.eqv_a hq1)
  clear hq1
  go_wp2_with fail
  go_ret
  exact ⟨retB HF.out.symm, hB1⟩
 have HT_a := Lib.hid hq1
 clear hq1
 go_wp2_with fail
 refine (zaV x.b y.b _ _ _ _ _ (by exact (Tm.close m3 m4).below hB1) (by exact (Tm.close m3' m4').below hB1)).mono ?_
 rintro e w2 ⟨rfl, hb2⟩
 have hB2 := hB1.trans (hb2.mono (by omega))
 have hx2 := zf hx1 (by omega) hb2
 have hy2 := zf hy1 (by omega) hb2
 have hz2 := Nat.le_trans hz1 hb2.size
 clear hx1 hy1
 cases hq2 : eqV x.b.cd y.b.cd
 ·have HF := Lib.hid (Atm.eqv_b hq2)
  clear hq2
  go_wp2_with fail
  go_ret
  exact ⟨retB HF.out.symm, hB2⟩
 have HT_b := Lib.hid hq2
 clear hq2
 by_cases tk2 : x.nums.length = y.nums.length
 rotate_left
 ·have tf : ((x.nums.length : Int) != (y.nums.length : Int)) = true := by rw [bne_iff_ne]; omega
  have HF := Lib.hid (Atm.eqv_nums (x := x) (y := y) (zbp tk2))
  clear tk2
  go_wp2_with fail
  go_ret
  exact ⟨retB HF.out.symm, hB2⟩
 have tq2 : ((x.nums.length : Int) != (y.nums.length : Int)) = false := by rw [tk2]; simp
 have tl2 : x.nums.length ≤ y.nums.length := by omega
 have tm2 : y.nums.length ≤ x.nums.length := by omega
 clear tk2
 by_cases tk3 : x.times.length = y.times.length
 rotate_left
 ·have tf : ((x.times.length : Int) != (y.times.length : Int)) = true := by rw [bne_iff_ne]; omega
  have HF := Lib.hid (Atm.eqv_times (x := x) (y := y) (zbp tk3))
  clear tk3
  go_wp2_with fail
  go_ret
  exact ⟨retB HF.out.symm, hB2⟩
 have tq3 : ((x.times.length : Int) != (y.times.length : Int)) = false := by rw [tk3]; simp
 have tl3 : x.times.length ≤ y.times.length := by omega
 have tm3 : y.times.length ≤ x.times.length := by omega
 clear tk3
 cases tk4 : (x.bound == y.bound)
 ·have HF := Lib.hid (Atm.eqv_bound tk4)
  have tn : (x.bound != y.bound) = true := by rw [bne, tk4]; rfl
  go_wp2_with fail
  go_ret
  exact ⟨retB HF.out.symm, hB2⟩
 have HT_bound := Lib.hid tk4
 have tn4 : (x.bound != y.bound) = false := by rw [bne, tk4]; rfl
 cases tk5 : (x.strict == y.strict)
 ·have HF := Lib.hid (Atm.eqv_strict tk5)
  have tn : (x.strict != y.strict) = true := by rw [bne, tk5]; rfl
  go_wp2_with fail
  go_ret
  exact ⟨retB HF.out.symm, hB2⟩
 have HT_strict := Lib.hid tk5
 have tn5 : (x.strict != y.strict) = false := by rw [bne, tk5]; rfl
 go_wp2_with fail
 go_loopw [5] (fun i wq => ∃ k : Nat, k ≤ x.nums.length ∧ i = .int .i64 k ∧ Hid (Alike Tm.cd x.nums y.nums k) ∧ Below w2.heap.size w2 wq) (fun i _ => x.nums.length - (intOf i).toNat)
 case atStart => exact ⟨0, Nat.zero_le _, rfl, Lib.hid Alike.zero, Below.refl _ _⟩
 case round =>
  obtain ⟨k1, hkl1, rfl, hall1, hL1⟩ := hrel
  have hBL1 := hB2.trans (hL1.mono (by omega))
  have hxL1 := zf hx2 (by omega) hL1
  have hyL1 := zf hy2 (by omega) hL1
  have hzL1 := Nat.le_trans hz2 hL1.size
  clear hx2 hy2
  have cx := hxL1 5
  have cy := hyL1 5
  simp only [zdP, zdN, zdO] at cx cy
  have hlen1 := zaj m5
  by_cases hlt : k1 < x.nums.length
  ·obtain ⟨b, off, rfl, hbs, _⟩ := zl m5 (by omega)
   obtain ⟨b', off', rfl, hbs', _⟩ := zl m5' (by omega)
   have hlt' : k1 < y.nums.length := by omega
   obtain ⟨ea1, ec1, ef1, d0, d1, em0, em1, _⟩ := Tm.at (m5.below hBL1) hlt
   obtain ⟨ea1', ec1', ef1', d0', d1', em0', em1', _⟩ := Tm.at (m5'.below hBL1) hlt'
   cases he : eqV (Tm.cd x.nums[k1]) (Tm.cd y.nums[k1])
   ·have HE := Lib.hid he
    go_wp2_with fail
    have qd0 := cell_regrown d0
    have qd1 := cell_regrown d1
    have qd0' := cell_regrown d0'
    have qd1' := cell_regrown d1'
    have qcx := cell_regrown cx
    have qcy := cell_regrown cy
    refine wp_region_quiet_below (by kernel_rfl) (by kernel_rfl) ?_
    repeat (quiet_step (refine Calls.regrown_of (zaV x.nums[k1] y.nums[k1] _ _ _ _ _ ((Tm.close em0 em1).below (below_regrown _ _ _)) ((Tm.close em0' em1').below (below_regrown _ _ _)))))
    refine wpQuiet_nil ?_
    intro wq0 hwq
    obtain ⟨⟨dq, osq⟩, hwq⟩ := hwq
    have hbq0 : Below wr.heap.size wr wq0 := hwq ▸ below_regrown wr dq osq
    clear hwq qcx qcy qd0 qd1 qd0' qd1'
    try rw [he]
    go_wp2_with fail
    go_ret
    exact ⟨retB (Atm.eqv_nums (zaD hlt hlt' HE.out)).symm, hBL1.trans (hbq0.mono (by omega))⟩
   ·have HE := Lib.hid he
    go_wp2_with fail
    have qd0 := cell_regrown d0
    have qd1 := cell_regrown d1
    have qd0' := cell_regrown d0'
    have qd1' := cell_regrown d1'
    have qcx := cell_regrown cx
    have qcy := cell_regrown cy
    refine wp_region_quiet_below (by kernel_rfl) (by kernel_rfl) ?_
    repeat (quiet_step (refine Calls.regrown_of (zaV x.nums[k1] y.nums[k1] _ _ _ _ _ ((Tm.close em0 em1).below (below_regrown _ _ _)) ((Tm.close em0' em1').below (below_regrown _ _ _)))))
    refine wpQuiet_nil ?_
    intro wq0 hwq
    obtain ⟨⟨dq, osq⟩, hwq⟩ := hwq
    have hbq0 : Below wr.heap.size wr wq0 := hwq ▸ below_regrown wr dq osq
    clear hwq qcx qcy qd0 qd1 qd0' qd1'
    go_wp2_with fail
    go_roundw
    case rel => exact ⟨k1 + 1, by omega, by go_num, hall1.out.succ hlt hlt' HE.out, hL1.trans (hbq0.mono (by have := hL1.size; omega))⟩
    case measure => simp [intOf]; omega
  have HT_nums := Lib.hid (hall1.out.all (by omega) (by omega))
  clear cx cy
  go_wp2_with fail
  go_loopw [6] (fun i wq => ∃ k : Nat, k ≤ x.times.length ∧ i = .int .i64 k ∧ Hid (Alike zm x.times y.times k) ∧ Below wr.heap.size wr wq) (fun i _ => x.times.length - (intOf i).toNat)
  case atStart => exact ⟨0, Nat.zero_le _, rfl, Lib.hid Alike.zero, Below.refl _ _⟩
  case round =>
   obtain ⟨k2, hkl2, rfl, hall2, hL2⟩ := hrel
   have hBL2 := hBL1.trans (hL2.mono (by omega))
   have hxL2 := zf hxL1 (by omega) hL2
   have hyL2 := zf hyL1 (by omega) hL2
   have hzL2 := Nat.le_trans hzL1 hL2.size
   clear hxL1 hyL1
   have cx := hxL2 6
   have cy := hyL2 6
   simp only [zdP, zdN, zdO] at cx cy
   have hlen2 := zaj m6
   by_cases hlt : k2 < x.times.length
   ·obtain ⟨b, off, rfl, hbs, _⟩ := zl m6 (by omega)
    obtain ⟨b', off', rfl, hbs', _⟩ := zl m6' (by omega)
    have hlt' : k2 < y.times.length := by omega
    obtain ⟨d0, _⟩ := zK (m6.below hBL2) hlt
    obtain ⟨d0', _⟩ := zK (m6'.below hBL2) hlt'
    cases he : (x.times[k2] == y.times[k2])
    all_goals have HE0 : Hid (eqV (zm x.times[k2]) (zm y.times[k2]) = (x.times[k2] == y.times[k2])) := Lib.hid (by simp only [zm, zcE]; rfl)
    ·have HE := Lib.hid (HE0.out.trans he)
     have hne : (x.times[k2] != y.times[k2]) = true := by rw [bne, he]; rfl
     go_wp2_with fail
     have qd0 := cell_regrown d0
     have qd0' := cell_regrown d0'
     have qcx := cell_regrown cx
     have qcy := cell_regrown cy
     refine wp_region_quiet_below (by kernel_rfl) (by kernel_rfl) ?_
     repeat (quiet_step (fail))
     refine wpQuiet_nil ?_
     intro wq0 hwq
     obtain ⟨⟨dq, osq⟩, hwq⟩ := hwq
     have hbq0 : Below wr.heap.size wr wq0 := hwq ▸ below_regrown wr dq osq
     clear hwq qcx qcy qd0 qd0'
     try rw [he]
     go_wp2_with fail
     go_ret
     exact ⟨retB (Atm.eqv_times (zaD hlt hlt' HE.out)).symm, hBL2.trans (hbq0.mono (by omega))⟩
    ·have HE := Lib.hid (HE0.out.trans he)
     have hne : (x.times[k2] != y.times[k2]) = false := by rw [bne, he]; rfl
     go_wp2_with fail
     have qd0 := cell_regrown d0
     have qd0' := cell_regrown d0'
     have qcx := cell_regrown cx
     have qcy := cell_regrown cy
     refine wp_region_quiet_below (by kernel_rfl) (by kernel_rfl) ?_
     repeat (quiet_step (fail))
     refine wpQuiet_nil ?_
     intro wq0 hwq
     obtain ⟨⟨dq, osq⟩, hwq⟩ := hwq
     have hbq0 : Below wr.heap.size wr wq0 := hwq ▸ below_regrown wr dq osq
     clear hwq qcx qcy qd0 qd0'
     go_wp2_with fail
     go_roundw
     case rel => exact ⟨k2 + 1, by omega, by go_num, hall2.out.succ hlt hlt' HE.out, hL2.trans (hbq0.mono (by have := hL2.size; omega))⟩
     case measure => simp [intOf]; omega
   have HT_times := Lib.hid (hall2.out.all (by omega) (by omega))
   clear cx cy
   go_wp2_with fail
   go_ret
   exact ⟨retB (by rw [Atm.eqv, HT_kind.out, HT_a.out, HT_b.out, HT_bound.out, HT_strict.out, HT_nums.out, HT_times.out]; rfl), hBL2⟩
end Go.Proofs.YtoehhbkhdddeeaaGreatDoor
end
