/- Parts of the proof: SameA SameB. -/
import Derived.Test.YtoehhbkhdddeeaaDoorPx12
import Derived.Test.YtoehhbkhdddeeaaDoorPx11
section
namespace Go.Proofs.YtoehhbkhdddeeaaDoor
open Go Go.RowKit
set_option linter.unusedVariables false
set_option linter.unusedSimpArgs false
set_option maxRecDepth 100000
set_option maxHeartbeats 16000000
theorem Atm.eqv (x y : Atm) : eqV x.cd y.cd = ((x.kind == y.kind) && (eqV x.a.cd y.a.cd && (eqV x.b.cd y.b.cd && (eqR (x.nums.map Tm.cd) (y.nums.map Tm.cd) && (eqR (x.times.map zn) (y.times.map zn) && ((x.bound == y.bound) && (x.strict == y.strict))))))) := by
 unfold Atm.cd
 rw [zat (by simp)]
 rw [zat (by simp [Tm.cd_len])]
 rw [zat (by simp [Tm.cd_len])]
 rw [zat (by simp)]
 rw [zat (by simp)]
 rw [zat (by simp)]
 simp only [eqV_int, eqV_str, eqV_bool, eqV_sl, ← Bool.beq_eq_decide_eq, ← int_beq]
theorem Atm.eqv_kind {x y : Atm} (h : (x.kind == y.kind) = false) : eqV x.cd y.cd = false := by rw [Atm.eqv]; simp [h]
theorem Atm.eqv_a {x y : Atm} (h : eqV x.a.cd y.a.cd = false) : eqV x.cd y.cd = false := by rw [Atm.eqv]; simp [h]
theorem Atm.eqv_b {x y : Atm} (h : eqV x.b.cd y.b.cd = false) : eqV x.cd y.cd = false := by rw [Atm.eqv]; simp [h]
theorem Atm.eqv_nums {x y : Atm} (h : eqR (x.nums.map Tm.cd) (y.nums.map Tm.cd) = false) : eqV x.cd y.cd = false := by rw [Atm.eqv]; simp [h]
theorem Atm.eqv_times {x y : Atm} (h : eqR (x.times.map zn) (y.times.map zn) = false) : eqV x.cd y.cd = false := by rw [Atm.eqv]; simp [h]
theorem Atm.eqv_bound {x y : Atm} (h : (x.bound == y.bound) = false) : eqV x.cd y.cd = false := by rw [Atm.eqv]; simp [h]
theorem Atm.eqv_strict {x y : Atm} (h : (x.strict == y.strict) = false) : eqV x.cd y.cd = false := by rw [Atm.eqv]; simp [h]
theorem zbB (xs ys : List Int) (v u : Value) (f f' : List Nat) (w : World) (hv : Rd w (.sl (xs.map zn)) v f) (hx : Rd w (.sl (ys.map zn)) u f') :
  Calls Tryd.prog 29 #[v, u] w fun e w' => e = .returned (.bool (eqR (xs.map zn) (ys.map zn))) ∧ Below w.heap.size w w' := by
 obtain ⟨a, c, rfl, hc1, hc2⟩ := ze hv
 obtain ⟨a', c', rfl, hc1', hc2'⟩ := ze hx
 by_cases hl : xs.length = ys.length
 ·have hlb : ((xs.length : Int) != (ys.length : Int)) = false := by rw [hl]; simp
  have hl1 : xs.length ≤ ys.length := by omega
  have hl2 : ys.length ≤ xs.length := by omega
  clear hl
  go_enter Tryd.func29, Tryd.ntmps29
  go_wp2_with fail
  go_loopw [13] (fun i wr => ∃ k : Nat, k ≤ xs.length ∧ i = .int .i64 k ∧ Hid (Alike zn xs ys k) ∧ Below w.heap.size w wr) (fun i _ => xs.length - (intOf i).toNat)
  case atStart => exact ⟨0, Nat.zero_le _, rfl, Lib.hid Alike.zero, Below.refl _ _⟩
  case round =>
   obtain ⟨k, hkl, rfl, hall, hb⟩ := hrel
   have hz := hb.size
   by_cases hlt : k < xs.length
   ·obtain ⟨b, off, rfl, hbs, _⟩ := zk hv (by omega)
    obtain ⟨b', off', rfl, hbs', _⟩ := zk hx (by omega)
    have hlt' : k < ys.length := by omega
    obtain ⟨d0, _⟩ := zC (hv.below hb) hlt
    obtain ⟨d0', _⟩ := zC (hx.below hb) hlt'
    by_cases he : xs[k] = ys[k]
    ·have HE : Hid (eqV (zn xs[k]) (zn ys[k]) = true) := by rw [he]; exact zbM _
     have hne : (xs[k] != ys[k]) = false := by rw [he]; simp
     clear he
     go_wp2_with fail
     have q0 := cell_regrown d0
     have q0' := cell_regrown d0'
     refine wp_region_quiet_below (by kernel_rfl) (by kernel_rfl) ?_
     repeat (quiet_step (fail))
     refine wpQuiet_nil ?_
     intro w2 hw2
     obtain ⟨⟨dq, osq⟩, hw2⟩ := hw2
     have hb2 : Below wr.heap.size wr w2 := hw2 ▸ below_regrown wr dq osq
     clear hw2 q0 q0'
     go_wp2_with fail
     go_roundw
     case rel => exact ⟨k + 1, by omega, by go_num, hall.out.succ hlt hlt' HE.out, hb.trans (hb2.mono (by omega))⟩
     case measure => simp [intOf]; omega
    ·have HE : Hid (eqV (zn xs[k]) (zn ys[k]) = false) := Lib.hid (eqV_no (by simpa [zn] using he))
     have hne : (xs[k] != ys[k]) = true := by rw [bne_iff_ne]; exact he
     go_wp2_with fail
     have q0 := cell_regrown d0
     have q0' := cell_regrown d0'
     refine wp_region_quiet_below (by kernel_rfl) (by kernel_rfl) ?_
     repeat (quiet_step (fail))
     refine wpQuiet_nil ?_
     intro w2 hw2
     obtain ⟨⟨dq, osq⟩, hw2⟩ := hw2
     have hb2 : Below wr.heap.size wr w2 := hw2 ▸ below_regrown wr dq osq
     clear hw2 q0 q0'
     go_wp2_with fail
     go_ret
     exact ⟨retB (zaL hlt hlt' HE.out).symm, hb.trans (hb2.mono (by omega))⟩
   ·go_wp2_with fail
    go_ret
    exact ⟨retB (hall.out.all (by omega) (by omega)).symm, hb⟩
 ·have hlb : ((xs.length : Int) != (ys.length : Int)) = true := by rw [bne_iff_ne]; omega
  have HF := Lib.hid (zbz (cd := zn) hl)
  clear hl
  go_enter Tryd.func29, Tryd.ntmps29
  go_wp2_with fail
  go_ret
  exact ⟨retB HF.out.symm, Below.refl _ _⟩
end Go.Proofs.YtoehhbkhdddeeaaDoor
end
