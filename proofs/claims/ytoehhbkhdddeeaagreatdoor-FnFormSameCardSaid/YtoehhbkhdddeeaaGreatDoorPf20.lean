/- Parts of the proof: SameD. -/
import Derived.Test.YtoehhbkhdddeeaaGreatDoorPf17
section
namespace Go.Proofs.YtoehhbkhdddeeaaGreatDoor
open Go Go.RowKit
set_option linter.unusedVariables false
set_option linter.unusedSimpArgs false
set_option maxRecDepth 100000
set_option maxHeartbeats 16000000
theorem sameFm_n (n : Nat) : ∀ (x y : Fm) (vs us : List Value) (f f' : List Nat) (w : World), ndV x.cd ≤ n → RdVs w x.cd vs f → RdVs w y.cd us f' → Calls Tryz.prog 5 #[.agg vs.toArray, .agg us.toArray] w fun e w' => e = .returned (.bool (eqV x.cd y.cd)) ∧ Below w.heap.size w w' := by
 induction n with
 | zero => intro x y vs us f f' w hn; have h : 0 < ndV x.cd := (by rw [Fm.cd_eq]; simp [ndV, ndC]; try omega); omega
 | succ n ih =>
  intro x y vs us f f' w hn hv hx
  have HK : Hid (∀ k ∈ x.kids, ndV k.cd ≤ n) := fun k hk => by have := Fm.kid_nd hk; omega
  have IH := Lib.hid ih
  clear ih
  obtain ⟨a3, c3, f3, a5, c5, f5, a6, c6, f6, a7, c7, f7, a11, c11, f11, rfl, _, m0, m1, m2, m3, m4, m5, m6, m7, m8, m9⟩ := Fm.open hv
  obtain ⟨a3', c3', f3', a5', c5', f5', a6', c6', f6', a7', c7', f7', a11', c11', f11', rfl, _, m0', m1', m2', m3', m4', m5', m6', m7', m8', m9'⟩ := Fm.open hx
  go_enter Tryz.func5, Tryz.ntmps5
  cases tk1 : (x.kind == y.kind)
  ·have HF := Lib.hid (Fm.eqv_kind tk1)
   go_wp2_with fail
   go_ret
   exact ⟨retB HF.out.symm, (((Below.refl _ _).alloc (Nat.le_refl _) _).alloc (by simp) _)⟩
  have HT_kind := Lib.hid tk1
  cases tk2 : (x.lit.no == y.lit.no)
  ·have HF := Lib.hid (Fm.eqv_lit_no tk2)
   go_wp2_with fail
   go_ret
   exact ⟨retB HF.out.symm, (((Below.refl _ _).alloc (Nat.le_refl _) _).alloc (by simp) _)⟩
  have HT_lit_no := Lib.hid tk2
  go_wp2_with fail
  refine (zbw x.lit.atom y.lit.atom _ _ _ _ _ (by exact (Atm.close m1 m2 m3 m4 m5 m6 m7 m8).below (((Below.refl _ _).alloc (Nat.le_refl _) _).alloc (by simp) _)) (by exact (Atm.close m1' m2' m3' m4' m5' m6' m7' m8').below (((Below.refl _ _).alloc (Nat.le_refl _) _).alloc (by simp) _))).mono ?_
  rintro e w1 ⟨rfl, hb1⟩
  obtain ⟨hx1, hy1, hz1, hB1⟩ := box2 (w := w) (wr := w1) (cs := #[.int .i64 x.kind, .int .i64 x.lit.atom.kind, .string x.lit.atom.a.name, .slice a3 x.lit.atom.a.kids.length c3, .string x.lit.atom.b.name, .slice a5 x.lit.atom.b.kids.length c5, .slice a6 x.lit.atom.nums.length c6, .slice a7 x.lit.atom.times.length c7, .int .i64 x.lit.atom.bound, .bool x.lit.atom.strict, .bool x.lit.no, .slice a11 x.kids.length c11]) (ds := #[.int .i64 y.kind, .int .i64 y.lit.atom.kind, .string y.lit.atom.a.name, .slice a3' y.lit.atom.a.kids.length c3', .string y.lit.atom.b.name, .slice a5' y.lit.atom.b.kids.length c5', .slice a6' y.lit.atom.nums.length c6', .slice a7' y.lit.atom.times.length c7', .int .i64 y.lit.atom.bound, .bool y.lit.atom.strict, .bool y.lit.no, .slice a11' y.kids.length c11']) (T := 33) (U := 33) (zs hb1 (by simp))
  cases hq1 : eqV x.lit.atom.cd y.lit.atom.cd
  ·have HF := Lib.hid (Fm.eqv_lit_atom hq1)
   clear hq1
   go_wp2_with fail
   go_ret
   exact ⟨retB HF.out.symm, hB1⟩
  have HT_lit_atom := Lib.hid hq1
  clear hq1
  go_wp2_with fail
  refine ((equalFm_f x.kids y.kids (fun k hk y' vs us f f' w => IH.out k y' vs us f f' w (HK.out k hk))) _ _ _ _ _ (by exact m9.below hB1) (by exact m9'.below hB1)).mono ?_
  rintro e w2 ⟨rfl, hb2⟩
  have hB2 := hB1.trans (hb2.mono (by omega))
  have hx2 := zf hx1 (by omega) hb2
  have hy2 := zf hy1 (by omega) hb2
  have hz2 := Nat.le_trans hz1 hb2.size
  clear hx1 hy1
  cases hq2 : eqR (x.kids.map Fm.cd) (y.kids.map Fm.cd)
  ·have HF := Lib.hid (Fm.eqv_kids hq2)
   clear hq2
   go_wp2_with fail
   go_ret
   exact ⟨retB HF.out.symm, hB2⟩
  have HT_kids := Lib.hid hq2
  clear hq2
  go_wp2_with fail
  go_ret
  exact ⟨retB (by rw [Fm.eqv, HT_kind.out, HT_lit_no.out, HT_lit_atom.out, HT_kids.out]; try rfl), hB2⟩
theorem sameFm_x (x y : Fm) (vs us : List Value) (f f' : List Nat) (w : World) (hv : RdVs w x.cd vs f) (hx : RdVs w y.cd us f') :
  Calls Tryz.prog 5 #[.agg vs.toArray, .agg us.toArray] w fun e w' => e = .returned (.bool (eqV x.cd y.cd)) ∧ Below w.heap.size w w' := sameFm_n _ x y vs us f f' w (Nat.le_refl _) hv hx
theorem sameFmS_n (n : Nat) : ∀ (x y : Fm) (vs us : List Value) (f f' : List Nat) (w : World), ndV x.cd ≤ n → RdVs w x.cd vs f → RdVs w y.cd us f' → Calls Tryz.prog 6 #[.agg vs.toArray, .agg us.toArray] w fun e w' => e = .returned (.bool (eqV x.cd y.cd)) ∧ Below w.heap.size w w' := by
 induction n with
 | zero => intro x y vs us f f' w hn; have h : 0 < ndV x.cd := (by rw [Fm.cd_eq]; simp [ndV, ndC]; try omega); omega
 | succ n ih =>
  intro x y vs us f f' w hn hv hx
  have HK : Hid (∀ k ∈ x.kids, ndV k.cd ≤ n) := fun k hk => by have := Fm.kid_nd hk; omega
  have IH := Lib.hid ih
  clear ih
  obtain ⟨a3, c3, f3, a5, c5, f5, a6, c6, f6, a7, c7, f7, a11, c11, f11, rfl, _, m0, m1, m2, m3, m4, m5, m6, m7, m8, m9⟩ := Fm.open hv
  obtain ⟨a3', c3', f3', a5', c5', f5', a6', c6', f6', a7', c7', f7', a11', c11', f11', rfl, _, m0', m1', m2', m3', m4', m5', m6', m7', m8', m9'⟩ := Fm.open hx
  go_enter Tryz.func6, Tryz.ntmps6
  cases tk1 : (x.kind == y.kind)
  ·have HF := Lib.hid (Fm.eqv_kind tk1)
   have tn : (x.kind != y.kind) = true := by rw [bne, tk1]; rfl
   go_wp2_with fail
   go_ret
   exact ⟨retB HF.out.symm, (((Below.refl _ _).alloc (Nat.le_refl _) _).alloc (by simp) _)⟩
  have HT_kind := Lib.hid tk1
  have tn1 : (x.kind != y.kind) = false := by rw [bne, tk1]; rfl
  cases tk2 : (x.lit.no == y.lit.no)
  ·have HF := Lib.hid (Fm.eqv_lit_no tk2)
   have tn : (x.lit.no != y.lit.no) = true := by rw [bne, tk2]; rfl
   go_wp2_with fail
   go_ret
   exact ⟨retB HF.out.symm, (((Below.refl _ _).alloc (Nat.le_refl _) _).alloc (by simp) _)⟩
  have HT_lit_no := Lib.hid tk2
  have tn2 : (x.lit.no != y.lit.no) = false := by rw [bne, tk2]; rfl
  go_wp2_with fail
  refine (zbP x.lit.atom y.lit.atom _ _ _ _ _ (by exact (Atm.close m1 m2 m3 m4 m5 m6 m7 m8).below (((Below.refl _ _).alloc (Nat.le_refl _) _).alloc (by simp) _)) (by exact (Atm.close m1' m2' m3' m4' m5' m6' m7' m8').below (((Below.refl _ _).alloc (Nat.le_refl _) _).alloc (by simp) _))).mono ?_
  rintro e w1 ⟨rfl, hb1⟩
  obtain ⟨hx1, hy1, hz1, hB1⟩ := box2 (w := w) (wr := w1) (cs := #[.int .i64 x.kind, .int .i64 x.lit.atom.kind, .string x.lit.atom.a.name, .slice a3 x.lit.atom.a.kids.length c3, .string x.lit.atom.b.name, .slice a5 x.lit.atom.b.kids.length c5, .slice a6 x.lit.atom.nums.length c6, .slice a7 x.lit.atom.times.length c7, .int .i64 x.lit.atom.bound, .bool x.lit.atom.strict, .bool x.lit.no, .slice a11 x.kids.length c11]) (ds := #[.int .i64 y.kind, .int .i64 y.lit.atom.kind, .string y.lit.atom.a.name, .slice a3' y.lit.atom.a.kids.length c3', .string y.lit.atom.b.name, .slice a5' y.lit.atom.b.kids.length c5', .slice a6' y.lit.atom.nums.length c6', .slice a7' y.lit.atom.times.length c7', .int .i64 y.lit.atom.bound, .bool y.lit.atom.strict, .bool y.lit.no, .slice a11' y.kids.length c11']) (T := 33) (U := 33) (zs hb1 (by simp))
  cases hq1 : eqV x.lit.atom.cd y.lit.atom.cd
  ·have HF := Lib.hid (Fm.eqv_lit_atom hq1)
   clear hq1
   go_wp2_with fail
   go_ret
   exact ⟨retB HF.out.symm, hB1⟩
  have HT_lit_atom := Lib.hid hq1
  clear hq1
  by_cases tk3 : x.kids.length = y.kids.length
  rotate_left
  ·have tf : ((x.kids.length : Int) != (y.kids.length : Int)) = true := by rw [bne_iff_ne]; omega
   have HF := Lib.hid (Fm.eqv_kids (x := x) (y := y) (zbp tk3))
   clear tk3
   go_wp2_with fail
   go_ret
   exact ⟨retB HF.out.symm, hB1⟩
  have tq3 : ((x.kids.length : Int) != (y.kids.length : Int)) = false := by rw [tk3]; simp
  have tl3 : x.kids.length ≤ y.kids.length := by omega
  have tm3 : y.kids.length ≤ x.kids.length := by omega
  clear tk3
  go_wp2_with fail
  go_loopw [5] (fun i wq => ∃ k : Nat, k ≤ x.kids.length ∧ i = .int .i64 k ∧ Hid (Alike Fm.cd x.kids y.kids k) ∧ Below w1.heap.size w1 wq) (fun i _ => x.kids.length - (intOf i).toNat)
  case atStart => exact ⟨0, Nat.zero_le _, rfl, Lib.hid Alike.zero, Below.refl _ _⟩
  case round =>
   obtain ⟨k1, hkl1, rfl, hall1, hL1⟩ := hrel
   have hBL1 := hB1.trans (hL1.mono (by omega))
   have hxL1 := zf hx1 (by omega) hL1
   have hyL1 := zf hy1 (by omega) hL1
   have hzL1 := Nat.le_trans hz1 hL1.size
   clear hx1 hy1
   have cx := hxL1 11
   have cy := hyL1 11
   simp only [zdP, zdN, zdO] at cx cy
   have hlen1 := zaj m9
   by_cases hlt : k1 < x.kids.length
   ·obtain ⟨b, off, rfl, hbs, _⟩ := zl m9 (by omega)
    obtain ⟨b', off', rfl, hbs', _⟩ := zl m9' (by omega)
    have hlt' : k1 < y.kids.length := by omega
    obtain ⟨ea3, ec3, ef3, ea5, ec5, ef5, ea6, ec6, ef6, ea7, ec7, ef7, ea11, ec11, ef11, d0, d1, d2, d3, d4, d5, d6, d7, d8, d9, d10, d11, em0, em1, em2, em3, em4, em5, em6, em7, em8, em9, _⟩ := Fm.at (m9.below hBL1) hlt
    obtain ⟨ea3', ec3', ef3', ea5', ec5', ef5', ea6', ec6', ef6', ea7', ec7', ef7', ea11', ec11', ef11', d0', d1', d2', d3', d4', d5', d6', d7', d8', d9', d10', d11', em0', em1', em2', em3', em4', em5', em6', em7', em8', em9', _⟩ := Fm.at (m9'.below hBL1) hlt'
    cases he : eqV (Fm.cd x.kids[k1]) (Fm.cd y.kids[k1])
    ·have HE := Lib.hid he
     go_wp2_with fail
     have qd0 := cell_regrown d0
     have qd1 := cell_regrown d1
     have qd2 := cell_regrown d2
     have qd3 := cell_regrown d3
     have qd4 := cell_regrown d4
     have qd5 := cell_regrown d5
     have qd6 := cell_regrown d6
     have qd7 := cell_regrown d7
     have qd8 := cell_regrown d8
     have qd9 := cell_regrown d9
     have qd10 := cell_regrown d10
     have qd11 := cell_regrown d11
     have qd0' := cell_regrown d0'
     have qd1' := cell_regrown d1'
     have qd2' := cell_regrown d2'
     have qd3' := cell_regrown d3'
     have qd4' := cell_regrown d4'
     have qd5' := cell_regrown d5'
     have qd6' := cell_regrown d6'
     have qd7' := cell_regrown d7'
     have qd8' := cell_regrown d8'
     have qd9' := cell_regrown d9'
     have qd10' := cell_regrown d10'
     have qd11' := cell_regrown d11'
     have qcx := cell_regrown cx
     have qcy := cell_regrown cy
     refine wp_region_quiet_below (by kernel_rfl) (by kernel_rfl) ?_
     repeat (quiet_step (refine Calls.regrown_of (IH.out x.kids[k1] y.kids[k1] _ _ _ _ _ (HK.out _ (zdT hlt)) ((Fm.close em0 em1 em2 em3 em4 em5 em6 em7 em8 em9).below (below_regrown _ _ _)) ((Fm.close em0' em1' em2' em3' em4' em5' em6' em7' em8' em9').below (below_regrown _ _ _)))))
     refine wpQuiet_nil ?_
     intro wq0 hwq
     obtain ⟨⟨dq, osq⟩, hwq⟩ := hwq
     have hbq0 : Below wr.heap.size wr wq0 := hwq ▸ below_regrown wr dq osq
     clear hwq qcx qcy qd0 qd1 qd2 qd3 qd4 qd5 qd6 qd7 qd8 qd9 qd10 qd11 qd0' qd1' qd2' qd3' qd4' qd5' qd6' qd7' qd8' qd9' qd10' qd11'
     try rw [he]
     go_wp2_with fail
     go_ret
     exact ⟨retB (Fm.eqv_kids (zaD hlt hlt' HE.out)).symm, hBL1.trans (hbq0.mono (by omega))⟩
    ·have HE := Lib.hid he
     go_wp2_with fail
     have qd0 := cell_regrown d0
     have qd1 := cell_regrown d1
     have qd2 := cell_regrown d2
     have qd3 := cell_regrown d3
     have qd4 := cell_regrown d4
     have qd5 := cell_regrown d5
     have qd6 := cell_regrown d6
     have qd7 := cell_regrown d7
     have qd8 := cell_regrown d8
     have qd9 := cell_regrown d9
     have qd10 := cell_regrown d10
     have qd11 := cell_regrown d11
     have qd0' := cell_regrown d0'
     have qd1' := cell_regrown d1'
     have qd2' := cell_regrown d2'
     have qd3' := cell_regrown d3'
     have qd4' := cell_regrown d4'
     have qd5' := cell_regrown d5'
     have qd6' := cell_regrown d6'
     have qd7' := cell_regrown d7'
     have qd8' := cell_regrown d8'
     have qd9' := cell_regrown d9'
     have qd10' := cell_regrown d10'
     have qd11' := cell_regrown d11'
     have qcx := cell_regrown cx
     have qcy := cell_regrown cy
     refine wp_region_quiet_below (by kernel_rfl) (by kernel_rfl) ?_
     repeat (quiet_step (refine Calls.regrown_of (IH.out x.kids[k1] y.kids[k1] _ _ _ _ _ (HK.out _ (zdT hlt)) ((Fm.close em0 em1 em2 em3 em4 em5 em6 em7 em8 em9).below (below_regrown _ _ _)) ((Fm.close em0' em1' em2' em3' em4' em5' em6' em7' em8' em9').below (below_regrown _ _ _)))))
     refine wpQuiet_nil ?_
     intro wq0 hwq
     obtain ⟨⟨dq, osq⟩, hwq⟩ := hwq
     have hbq0 : Below wr.heap.size wr wq0 := hwq ▸ below_regrown wr dq osq
     clear hwq qcx qcy qd0 qd1 qd2 qd3 qd4 qd5 qd6 qd7 qd8 qd9 qd10 qd11 qd0' qd1' qd2' qd3' qd4' qd5' qd6' qd7' qd8' qd9' qd10' qd11'
     go_wp2_with fail
     go_roundw
     case rel => exact ⟨k1 + 1, by omega, by go_num, hall1.out.succ hlt hlt' HE.out, hL1.trans (hbq0.mono (by have := hL1.size; omega))⟩
     case measure => simp [intOf]; omega
   have HT_kids := Lib.hid (hall1.out.all (by omega) (by omega))
   clear cx cy
   go_wp2_with fail
   go_ret
   exact ⟨retB (by rw [Fm.eqv, HT_kind.out, HT_lit_no.out, HT_lit_atom.out, HT_kids.out]; rfl), hBL1⟩
theorem sameFmS_x (x y : Fm) (vs us : List Value) (f f' : List Nat) (w : World) (hv : RdVs w x.cd vs f) (hx : RdVs w y.cd us f') :
  Calls Tryz.prog 6 #[.agg vs.toArray, .agg us.toArray] w fun e w' => e = .returned (.bool (eqV x.cd y.cd)) ∧ Below w.heap.size w w' := sameFmS_n _ x y vs us f f' w (Nat.le_refl _) hv hx
end Go.Proofs.YtoehhbkhdddeeaaGreatDoor
end
