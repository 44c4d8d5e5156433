/- Parts of the proof: SameA SameB. -/
import Derived.Test.YtoehhbkhdddeeaaGreatDoorPf10
import Derived.Test.YtoehhbkhdddeeaaGreatDoorPf8
section
namespace Go.Proofs.YtoehhbkhdddeeaaGreatDoor
open Go Go.RowKit
set_option linter.unusedVariables false
set_option linter.unusedSimpArgs false
set_option maxRecDepth 100000
set_option maxHeartbeats 16000000
theorem Atm.eqv (x y : Atm) : eqV x.cd y.cd = ((x.kind == y.kind) && (eqV x.a.cd y.a.cd && (eqV x.b.cd y.b.cd && (eqR (x.nums.map Tm.cd) (y.nums.map Tm.cd) && (eqR (x.times.map zm) (y.times.map zm) && ((x.bound == y.bound) && (x.strict == y.strict))))))) := by
 unfold Atm.cd
 rw [zat (by simp)]
 rw [zat (by simp [Tm.cd_len])]
 rw [zat (by simp [Tm.cd_len])]
 rw [zat (by simp)]
 rw [zat (by simp)]
 rw [zat (by simp)]
 simp only [zcE, eqV_str, zcY, eqV_sl, ← Bool.beq_eq_decide_eq, ← int_beq]
theorem Atm.eqv_kind {x y : Atm} (h : (x.kind == y.kind) = false) : eqV x.cd y.cd = false := by rw [Atm.eqv]; simp [h]
theorem Atm.eqv_a {x y : Atm} (h : eqV x.a.cd y.a.cd = false) : eqV x.cd y.cd = false := by rw [Atm.eqv]; simp [h]
theorem Atm.eqv_b {x y : Atm} (h : eqV x.b.cd y.b.cd = false) : eqV x.cd y.cd = false := by rw [Atm.eqv]; simp [h]
theorem Atm.eqv_nums {x y : Atm} (h : eqR (x.nums.map Tm.cd) (y.nums.map Tm.cd) = false) : eqV x.cd y.cd = false := by rw [Atm.eqv]; simp [h]
theorem Atm.eqv_times {x y : Atm} (h : eqR (x.times.map zm) (y.times.map zm) = false) : eqV x.cd y.cd = false := by rw [Atm.eqv]; simp [h]
theorem Atm.eqv_bound {x y : Atm} (h : (x.bound == y.bound) = false) : eqV x.cd y.cd = false := by rw [Atm.eqv]; simp [h]
theorem Atm.eqv_strict {x y : Atm} (h : (x.strict == y.strict) = false) : eqV x.cd y.cd = false := by rw [Atm.eqv]; simp [h]
theorem Fm.eqv (x y : Fm) : eqV x.cd y.cd = ((x.kind == y.kind) && (eqV x.lit.atom.cd y.lit.atom.cd && ((x.lit.no == y.lit.no) && eqR (x.kids.map Fm.cd) (y.kids.map Fm.cd)))) := by
 rw [Fm.cd_eq x, Fm.cd_eq y]
 simp only [Lt.cd, List.append_assoc]
 rw [zat (by simp)]
 rw [zat (by simp [Atm.cd_len])]
 rw [zat (by simp)]
 simp only [zcE, eqV_str, zcY, eqV_sl, ← Bool.beq_eq_decide_eq, ← int_beq]
theorem Fm.eqv_kind {x y : Fm} (h : (x.kind == y.kind) = false) : eqV x.cd y.cd = false := by rw [Fm.eqv]; simp [h]
theorem Fm.eqv_lit_atom {x y : Fm} (h : eqV x.lit.atom.cd y.lit.atom.cd = false) : eqV x.cd y.cd = false := by rw [Fm.eqv]; simp [h]
theorem Fm.eqv_lit_no {x y : Fm} (h : (x.lit.no == y.lit.no) = false) : eqV x.cd y.cd = false := by rw [Fm.eqv]; simp [h]
theorem Fm.eqv_kids {x y : Fm} (h : eqR (x.kids.map Fm.cd) (y.kids.map Fm.cd) = false) : eqV x.cd y.cd = false := by rw [Fm.eqv]; simp [h]
theorem zcM (xs ys : List Int) (v u : Value) (f f' : List Nat) (w : World) (hv : Rd w (.sl (xs.map zm)) v f) (hx : Rd w (.sl (ys.map zm)) u f') :
  Calls Tryz.prog 22 #[v, u] w fun e w' => e = .returned (.bool (eqR (xs.map zm) (ys.map zm))) ∧ Below w.heap.size w w' := by
 obtain ⟨a, c, rfl, hc1, hc2⟩ := ze hv
 obtain ⟨a', c', rfl, hc1', hc2'⟩ := ze hx
 by_cases hl : xs.length = ys.length
 ·have hlb : ((xs.length : Int) != (ys.length : Int)) = false := by rw [hl]; simp
  have hl1 : xs.length ≤ ys.length := by omega
  have hl2 : ys.length ≤ xs.length := by omega
  clear hl
  go_enter Tryz.func22, Tryz.ntmps22
  go_wp2_with fail
  go_loopw [13] (fun i wr => ∃ k : Nat, k ≤ xs.length ∧ i = .int .i64 k ∧ Hid (Alike zm xs ys k) ∧ Below w.heap.size w wr) (fun i _ => xs.length - (intOf i).toNat)
  case atStart => exact ⟨0, Nat.zero_le _, rfl, Lib.hid Alike.zero, Below.refl _ _⟩
  case round =>
   obtain ⟨k, hkl, rfl, hall, hb⟩ := hrel
   have hz := hb.size
   by_cases hlt : k < xs.length
   ·obtain ⟨b, off, rfl, hbs, _⟩ := zl hv (by omega)
    obtain ⟨b', off', rfl, hbs', _⟩ := zl hx (by omega)
    have hlt' : k < ys.length := by omega
    obtain ⟨d0, _⟩ := zK (hv.below hb) hlt
    obtain ⟨d0', _⟩ := zK (hx.below hb) hlt'
    by_cases he : xs[k] = ys[k]
    ·have HE : Hid (eqV (zm xs[k]) (zm ys[k]) = true) := by rw [he]; exact zcX _
     have hne : (xs[k] != ys[k]) = false := by rw [he]; simp
     clear he
     go_wp2_with fail
     have q0 := cell_regrown d0
     have q0' := cell_regrown d0'
     refine wp_region_quiet_below (by kernel_rfl) (by kernel_rfl) ?_
     repeat (quiet_step (fail))
     refine wpQuiet_nil ?_
     intro w2 hw2
     obtain ⟨⟨dq, osq⟩, hw2⟩ := hw2
     have hb2 : Below wr.heap.size wr w2 := hw2 ▸ below_regrown wr dq osq
     clear hw2 q0 q0'
     go_wp2_with fail
     go_roundw
     case rel => exact ⟨k + 1, by omega, by go_num, hall.out.succ hlt hlt' HE.out, hb.trans (hb2.mono (by omega))⟩
     case measure => simp [intOf]; omega
    ·have HE : Hid (eqV (zm xs[k]) (zm ys[k]) = false) := Lib.hid (eqV_no (by simpa [zm] using he))
     have hne : (xs[k] != ys[k]) = true := by rw [bne_iff_ne]; exact he
     go_wp2_with fail
     have q0 := cell_regrown d0
     have q0' := cell_regrown d0'
     refine wp_region_quiet_below (by kernel_rfl) (by kernel_rfl) ?_
     repeat (quiet_step (fail))
     refine wpQuiet_nil ?_
     intro w2 hw2
     obtain ⟨⟨dq, osq⟩, hw2⟩ := hw2
     have hb2 : Below wr.heap.size wr w2 := hw2 ▸ below_regrown wr dq osq
     clear hw2 q0 q0'
     go_wp2_with fail
     go_ret
     exact ⟨retB (zaD hlt hlt' HE.out).symm, hb.trans (hb2.mono (by omega))⟩
   ·go_wp2_with fail
    go_ret
    exact ⟨retB (hall.out.all (by omega) (by omega)).symm, hb⟩
 ·have hlb : ((xs.length : Int) != (ys.length : Int)) = true := by rw [bne_iff_ne]; omega
  have HF := Lib.hid (zbp (cd := zm) hl)
  clear hl
  go_enter Tryz.func22, Tryz.ntmps22
  go_wp2_with fail
  go_ret
  exact ⟨retB HF.out.symm, Below.refl _ _⟩
theorem equalFm_f (xs ys : List Fm) (hq : ∀ x ∈ xs, ∀ (y : Fm) (vs us : List Value) (f f' : List Nat) (w : World), RdVs w x.cd vs f → RdVs w y.cd us f' → Calls Tryz.prog 5 #[.agg vs.toArray, .agg us.toArray] w fun e w' => e = .returned (.bool (eqV x.cd y.cd)) ∧ Below w.heap.size w w')
  (v u : Value) (f f' : List Nat) (w : World) (hv : Rd w (.sl (xs.map Fm.cd)) v f) (hx : Rd w (.sl (ys.map Fm.cd)) u f') :
  Calls Tryz.prog 13 #[v, u, .func (.func 5) #[] #[]] w fun e w' => e = .returned (.bool (eqR (xs.map Fm.cd) (ys.map Fm.cd))) ∧ Below w.heap.size w w' := by
 obtain ⟨a, c, rfl, hc1, hc2⟩ := ze hv
 obtain ⟨a', c', rfl, hc1', hc2'⟩ := ze hx
 have HQ := Lib.hid hq
 clear hq
 by_cases hl : xs.length = ys.length
 ·have hlb : ((xs.length : Int) != (ys.length : Int)) = false := by rw [hl]; simp
  have hl1 : xs.length ≤ ys.length := by omega
  have hl2 : ys.length ≤ xs.length := by omega
  clear hl
  go_enter Tryz.func13, Tryz.ntmps13
  go_wp2_with fail
  go_loopw [17] (fun i wr => ∃ k : Nat, k ≤ xs.length ∧ i = .int .i64 k ∧ Hid (Alike Fm.cd xs ys k) ∧ Below w.heap.size w wr) (fun i _ => xs.length - (intOf i).toNat)
  case atStart => exact ⟨0, Nat.zero_le _, rfl, Lib.hid Alike.zero, Below.refl _ _⟩
  case round =>
   obtain ⟨k, hkl, rfl, hall, hb⟩ := hrel
   have hz := hb.size
   by_cases hlt : k < xs.length
   ·obtain ⟨b, off, rfl, hbs, _⟩ := zl hv (by omega)
    obtain ⟨b', off', rfl, hbs', _⟩ := zl hx (by omega)
    have hlt' : k < ys.length := by omega
    obtain ⟨a3, c3, f3, a5, c5, f5, a6, c6, f6, a7, c7, f7, a11, c11, f11, d0, d1, d2, d3, d4, d5, d6, d7, d8, d9, d10, d11, m0, m1, m2, m3, m4, m5, m6, m7, m8, m9, _⟩ := Fm.at (hv.below hb) hlt
    obtain ⟨a3', c3', f3', a5', c5', f5', a6', c6', f6', a7', c7', f7', a11', c11', f11', d0', d1', d2', d3', d4', d5', d6', d7', d8', d9', d10', d11', m0', m1', m2', m3', m4', m5', m6', m7', m8', m9', _⟩ := Fm.at (hx.below hb) hlt'
    have hbz : b' < wr.heap.size := by omega
    go_wp2_with fail
    refine (HQ.out xs[k] (zdT hlt) ys[k] _ _ _ _ _ (by exact (Fm.close m0 m1 m2 m3 m4 m5 m6 m7 m8 m9).below (((Below.refl _ _).alloc (Nat.le_refl _) _).alloc (by simp) _)) (by exact (Fm.close m0' m1' m2' m3' m4' m5' m6' m7' m8' m9').below (((Below.refl _ _).alloc (Nat.le_refl _) _).alloc (by simp) _))).mono ?_
    rintro e w2 ⟨rfl, hb2⟩
    have hb3 : Below wr.heap.size wr w2 := ((((Below.refl _ _).alloc (Nat.le_refl _) _).alloc (by simp) _)).trans (hb2.mono (by simp; try omega))
    clear hb2
    cases he : eqV (xs[k].cd) (ys[k].cd)
    ·have HE := Lib.hid he
     clear he
     go_wp2_with fail
     go_ret
     exact ⟨retB (zaD hlt hlt' HE.out).symm, hb.trans (hb3.mono (by omega))⟩
    ·have HE := Lib.hid he
     clear he
     go_wp2_with fail
     go_roundw
     case rel => exact ⟨k + 1, by omega, by go_num, hall.out.succ hlt hlt' HE.out, hb.trans (hb3.mono (by omega))⟩
     case measure => simp [intOf]; omega
   ·go_wp2_with fail
    go_ret
    exact ⟨retB (hall.out.all (by omega) (by omega)).symm, hb⟩
 ·have hlb : ((xs.length : Int) != (ys.length : Int)) = true := by rw [bne_iff_ne]; omega
  have HF := Lib.hid (zbp (cd := Fm.cd) hl)
  clear hl
  go_enter Tryz.func13, Tryz.ntmps13
  go_wp2_with fail
  go_ret
  exact ⟨retB HF.out.symm, Below.refl _ _⟩
end Go.Proofs.YtoehhbkhdddeeaaGreatDoor
end
