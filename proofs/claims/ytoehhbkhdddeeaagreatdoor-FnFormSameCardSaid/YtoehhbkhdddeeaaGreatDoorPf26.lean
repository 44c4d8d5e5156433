/- Parts of the proof: AtomS. -/
import Derived.Test.YtoehhbkhdddeeaaGreatDoorPf23
section
namespace Go.Proofs.YtoehhbkhdddeeaaGreatDoor
open Go Go.RowKit
set_option linter.unusedVariables false
set_option linter.unusedSimpArgs false
set_option maxRecDepth 100000
set_option maxHeartbeats 16000000
theorem l6Sum_any (x : Atm) (vs : List Value) (f : List Nat) (w : World) (hbig : x.small) (hv : RdVs w x.cd vs f) :
  Calls Tryz.prog 87 #[.agg vs.toArray] w fun e w' => e = .returned (.bool x.sumB) ∧ Below w.heap.size w w' := by
 obtain ⟨a2, c2, f2, a4, c4, f4, a5, c5, f5, a6, c6, f6, rfl, _, m0, m1, m2, m3, m4, m5, m6, m7⟩ := Atm.open hv
 have hlen := zaj m5
 have HBIG := Lib.hid hbig
 unfold Atm.small at hbig
 go_enter Tryz.func87, Tryz.ntmps87
 go_wp2_with fail
 refine (zbO x.a _ _ (by exact (TmR.mk m1 ⟨f2, m2⟩).below (za _ _))).mono ?_
 rintro e wi0 ⟨rfl, hb⟩
 obtain ⟨hx, hz, hB⟩ := box1 (w := w) (wr := wi0) (cs := #[.int .i64 x.kind, .string x.a.name, .slice a2 x.a.kids.length c2, .string x.b.name, .slice a4 x.b.kids.length c4, .slice a5 x.nums.length c5, .slice a6 x.times.length c6, .int .i64 x.bound, .bool x.strict]) (T := 28) (zs hb (by simp))
 clear hb
 have C0 := hx 0
 have C1 := hx 1
 have C2 := hx 2
 have C3 := hx 3
 have C4 := hx 4
 have C5 := hx 5
 have C6 := hx 6
 have C7 := hx 7
 have C8 := hx 8
 simp only [zdP, zdN, zdO] at C0 C1 C2 C3 C4 C5 C6 C7 C8
 cases h0 : x.a.noneB
 ·have HF : Hid (x.sumB = false) := Lib.hid (Atm.sumB_hd (by rw [Atm.hdB, h0]; simp))
  clear h0
  go_wp2_with fail
  go_ret
  exact ⟨retB HF.out.symm, hB⟩
 have H0 := Lib.hid h0
 clear h0
 go_wp2_with fail
 refine (zbO x.b _ _ (by exact (TmR.mk m3 ⟨f4, m4⟩).below hB)).mono ?_
 rintro e wi1 ⟨rfl, hb⟩
 replace hB := hB.trans (hb.mono (by omega))
 replace hx := zf hx (by omega) hb
 replace hz := Nat.le_trans hz hb.size
 replace C0 := zb C0 hb
 replace C1 := zb C1 hb
 replace C2 := zb C2 hb
 replace C3 := zb C3 hb
 replace C4 := zb C4 hb
 replace C5 := zb C5 hb
 replace C6 := zb C6 hb
 replace C7 := zb C7 hb
 replace C8 := zb C8 hb
 clear hb
 cases h1 : x.b.noneB
 ·have HF : Hid (x.sumB = false) := Lib.hid (Atm.sumB_hd (by rw [Atm.hdB, h1, H0.out]; simp))
  clear h1
  go_wp2_with fail
  go_ret
  exact ⟨retB HF.out.symm, hB⟩
 have H1 := Lib.hid h1
 clear h1
 cases h2 : ((x.nums.length : Int) != (x.times.length : Int))
 rotate_left
 ·have HF : Hid (x.sumB = false) := Lib.hid (Atm.sumB_hd (by rw [Atm.hdB, H0.out, H1.out, decide_eq_false (fun h => by rw [bne_iff_ne] at h2; exact h2 (by rw [h]))]; simp))
  go_wp2_with fail
  go_ret
  exact ⟨retB HF.out.symm, hB⟩
 have H3 : Hid (x.nums.length = x.times.length) := Lib.hid (by simp at h2; omega)
 by_cases g1 : 1 ≤ x.nums.length
 rotate_left
 ·have t1 : decide ((x.nums.length : Int) < 1) = true := by simp; omega
  have HF : Hid (x.sumB = false) := Lib.hid (Atm.sumB_hd (by rw [Atm.hdB, decide_eq_false g1]; simp))
  go_wp2_with fail
  go_ret
  exact ⟨retB HF.out.symm, hB⟩
 have t1 : decide ((x.nums.length : Int) < 1) = false := by simp; omega
 by_cases g2 : x.nums.length ≤ 4
 rotate_left
 ·have t2 : decide ((4 : Int) < (x.nums.length : Int)) = true := by simp; omega
  have HF : Hid (x.sumB = false) := Lib.hid (Atm.sumB_hd (by rw [Atm.hdB, decide_eq_false g2]; simp))
  go_wp2_with fail
  go_ret
  exact ⟨retB HF.out.symm, hB⟩
 have t2 : decide ((4 : Int) < (x.nums.length : Int)) = false := by simp; omega
 by_cases g3 : -1000 ≤ x.bound
 rotate_left
 ·have t3 : decide (x.bound < (-1000 : Int)) = true := by simp; omega
  have HF : Hid (x.sumB = false) := Lib.hid (Atm.sumB_hd (by rw [Atm.hdB, decide_eq_false g3]; simp))
  go_wp2_with fail
  go_ret
  exact ⟨retB HF.out.symm, hB⟩
 have t3 : decide (x.bound < (-1000 : Int)) = false := by simp; omega
 by_cases g4 : x.bound ≤ 1000
 rotate_left
 ·have t4 : decide ((1000 : Int) < x.bound) = true := by simp; omega
  have HF : Hid (x.sumB = false) := Lib.hid (Atm.sumB_hd (by rw [Atm.hdB, decide_eq_false g4]; simp))
  go_wp2_with fail
  go_ret
  exact ⟨retB HF.out.symm, hB⟩
 have t4 : decide ((1000 : Int) < x.bound) = false := by simp; omega
 have HD : Hid (x.hdB = true) := Lib.hid (by rw [Atm.hdB, H0.out, H1.out, decide_eq_true H3.out, decide_eq_true g1, decide_eq_true g2, decide_eq_true g3, decide_eq_true g4]; rfl)
 go_wp2_with fail
 go_loopw [3] (fun i wq => ∃ k : Nat, k ≤ x.nums.length ∧ i = .int .i64 k ∧ Hid (x.upto k) ∧ (∀ j, wq.cell? ⟨w.heap.size, j, none⟩ = #[.int .i64 x.kind, .string x.a.name, .slice a2 x.a.kids.length c2, .string x.b.name, .slice a4 x.b.kids.length c4, .slice a5 x.nums.length c5, .slice a6 x.times.length c6, .int .i64 x.bound, .bool x.strict][j]?) ∧ w.heap.size + 1 ≤ wq.heap.size ∧ Below w.heap.size w wq) (fun i _ => x.nums.length - (intOf i).toNat)
 case atStart => exact ⟨0, Nat.zero_le _, rfl, Lib.hid x.upto_zero, hx, hz, hB⟩
 case round =>
  clear hx hz hB C0 C1 C2 C3 C4 C5 C6 C7 C8
  obtain ⟨k, hkl, rfl, hall, hx, hz, hB⟩ := hrel
  have C5 := hx 5
  have C6 := hx 6
  simp only [zdP, zdN, zdO] at C5 C6
  by_cases hlt : k < x.nums.length
  ·skip
   have hlt' : k < x.times.length := by have := H3.out; omega
   obtain ⟨b, off, rfl, hbs, _⟩ := zl m5 (by omega)
   obtain ⟨b', off', rfl, hbs', _⟩ := zl m6 (by omega)
   obtain ⟨e1, g1', h1, d0, d1, t0, t1', _⟩ := Tm.at (m5.below hB) hlt
   obtain ⟨n0, _⟩ := zK (m6.below hB) hlt'
   have hbz : b < wr.heap.size := by omega
   have hbz' : b' < wr.heap.size := by omega
   have hz0 : w.heap.size < wr.heap.size := by omega
   have HTK := Tm.size_mem (zdT hlt)
   have HSK : x.nums[k].size ≤ 1100000 := by omega
   have HSG : x.nums[k].size ≤ 1000000000 := by omega
   have HTW := Lib.hid (fun j (h : j < x.nums.length) (hj : j < k) => Tm.wf_shape (Atm.upto_wf hall.out H3.out hj h))
   have TKw : TmR wr x.nums[k] (.agg #[.string x.nums[k].name, .slice e1 x.nums[k].kids.length g1']) := TmR.mk t0 ⟨h1, t1'⟩
   clear t0 t1' hbig
   go_wp2_with fail
   rcases Nat.eq_zero_or_pos k with hk0 | hkp
   ·skip
    have tg : decide ((0 : Int) < (k : Int)) = false := by simp; omega
    have tg2 : ¬ 0 < k := by omega
    have HK0 := Lib.hid hk0
    clear hk0
    cases hw : x.nums[k].wf
    ·have HF : Hid (x.sumB = false) := Lib.hid (Atm.sumB_no hlt (Atm.num_wf hlt hlt' hw))
     have q0 := cell_regrown C5
     have q1 := cell_regrown d0
     have q2 := cell_regrown d1
     refine wp_region_quiet_below (by kernel_rfl) (by kernel_rfl) ?_
     repeat (first | go_big_quiet_skip | quiet_step (first | (go_at_call 88; with_reducible refine Calls.regrown_of (zw x.nums[k] _ _ HSG (TKw.below (below_regrown _ _ _))))))
     refine wpQuiet_nil ?_
     intro w9 hw9
     obtain ⟨⟨dq, osq⟩, hw9⟩ := hw9
     have hb9 : Below wr.heap.size wr w9 := hw9 ▸ below_regrown wr dq osq
     clear hw9 q0 q1 q2
     go_wp2_with fail
     go_ret
     exact ⟨retB HF.out.symm, hB.trans (hb9.mono hB.size)⟩
    have HW := Lib.hid hw
    cases hn : (x.times[k] == 0)
    rotate_left
    ·have HF : Hid (x.sumB = false) := Lib.hid (Atm.sumB_no hlt (Atm.num_nil hlt hlt' hn))
     have q0 := cell_regrown C5
     have q1 := cell_regrown d0
     have q2 := cell_regrown d1
     refine wp_region_quiet_below (by kernel_rfl) (by kernel_rfl) ?_
     repeat (first | go_big_quiet_skip | quiet_step (first | (go_at_call 88; with_reducible refine Calls.regrown_of (zw x.nums[k] _ _ HSG (TKw.below (below_regrown _ _ _))))))
     refine wpQuiet_nil ?_
     intro w9 hw9
     obtain ⟨⟨dq, osq⟩, hw9⟩ := hw9
     have hb9 : Below wr.heap.size wr w9 := hw9 ▸ below_regrown wr dq osq
     clear hw9 q0 q1 q2
     go_wp2_with fail
     go_ret
     exact ⟨retB HF.out.symm, hB.trans (hb9.mono hB.size)⟩
    by_cases hi1 : -50 ≤ x.times[k]
    rotate_left
    ·have ti : decide (x.times[k] < (-50 : Int)) = true := by simp; omega
     have HF : Hid (x.sumB = false) := Lib.hid (Atm.sumB_no hlt (Atm.num_in hlt hlt' (by rw [decide_eq_false hi1]; rfl)))
     have q0 := cell_regrown C5
     have q1 := cell_regrown d0
     have q2 := cell_regrown d1
     refine wp_region_quiet_below (by kernel_rfl) (by kernel_rfl) ?_
     repeat (first | go_big_quiet_skip | quiet_step (first | (go_at_call 88; with_reducible refine Calls.regrown_of (zw x.nums[k] _ _ HSG (TKw.below (below_regrown _ _ _))))))
     refine wpQuiet_nil ?_
     intro w9 hw9
     obtain ⟨⟨dq, osq⟩, hw9⟩ := hw9
     have hb9 : Below wr.heap.size wr w9 := hw9 ▸ below_regrown wr dq osq
     clear hw9 q0 q1 q2
     go_wp2_with fail
     go_ret
     exact ⟨retB HF.out.symm, hB.trans (hb9.mono hB.size)⟩
    have ti : decide (x.times[k] < (-50 : Int)) = false := by simp; omega
    by_cases hi2 : x.times[k] ≤ 50
    rotate_left
    ·have ti2 : decide ((50 : Int) < x.times[k]) = true := by simp; omega
     have HF : Hid (x.sumB = false) := Lib.hid (Atm.sumB_no hlt (Atm.num_in hlt hlt' (by rw [decide_eq_false hi2]; simp)))
     have q0 := cell_regrown C5
     have q1 := cell_regrown d0
     have q2 := cell_regrown d1
     refine wp_region_quiet_below (by kernel_rfl) (by kernel_rfl) ?_
     repeat (first | go_big_quiet_skip | quiet_step (first | (go_at_call 88; with_reducible refine Calls.regrown_of (zw x.nums[k] _ _ HSG (TKw.below (below_regrown _ _ _))))))
     refine wpQuiet_nil ?_
     intro w9 hw9
     obtain ⟨⟨dq, osq⟩, hw9⟩ := hw9
     have hb9 : Below wr.heap.size wr w9 := hw9 ▸ below_regrown wr dq osq
     clear hw9 q0 q1 q2
     go_wp2_with fail
     go_ret
     exact ⟨retB HF.out.symm, hB.trans (hb9.mono hB.size)⟩
    have ti2 : decide ((50 : Int) < x.times[k]) = false := by simp; omega
    have HI : Hid ((decide ((-50 : Int) ≤ x.times[k]) && decide (x.times[k] ≤ 50)) = true) := Lib.hid (by rw [decide_eq_true hi1, decide_eq_true hi2]; rfl)
    have HS := Lib.hid (Atm.upto_succ hall.out (Atm.num_first HK0.out hlt hlt' HW.out HI.out hn))
    have q0 := cell_regrown C5
    have q1 := cell_regrown d0
    have q2 := cell_regrown d1
    refine wp_region_quiet_below (by kernel_rfl) (by kernel_rfl) ?_
    repeat (first | go_big_quiet_skip | quiet_step (first | (go_at_call 88; with_reducible refine Calls.regrown_of (zw x.nums[k] _ _ HSG (TKw.below (below_regrown _ _ _))))))
    refine wpQuiet_nil ?_
    intro w9 hw9
    obtain ⟨⟨dq, osq⟩, hw9⟩ := hw9
    have hb9 : Below wr.heap.size wr w9 := hw9 ▸ below_regrown wr dq osq
    clear hw9 q0 q1 q2
    go_wp2_with fail
    go_roundw
    case rel => exact ⟨k + 1, by omega, by go_num, HS, zf hx hz0 hb9, Nat.le_trans hz hb9.size, hB.trans (hb9.mono hB.size)⟩
    case measure => simp [intOf]; omega
   ·skip
    obtain ⟨j, hj⟩ : ∃ j, k = j + 1 := ⟨k - 1, by omega⟩
    have hlj : j < x.nums.length := by omega
    obtain ⟨e2, g2', h2', d2, d3, t2', t3', _⟩ := Tm.at (m5.below hB) hlj
    have TJw : TmR wr x.nums[j] (.agg #[.string x.nums[j].name, .slice e2 x.nums[j].kids.length g2']) := TmR.mk t2' ⟨h2', t3'⟩
    have HTJ := Tm.size_mem (zdT hlj)
    have HSZ : x.nums[j].size ≤ 1100000 := by have := HBIG.out; unfold Atm.small at this; omega
    have HSJ := HTW.out j hlj (by omega)
    have tg : decide ((0 : Int) < (k : Int)) = true := by simp; omega
    have hs1 : IntKind.i64.wrap ((k : Int) - 1) = (j : Int) := by rw [IntWalk.i64_in _ (by omega)]; omega
    have HKJ := Lib.hid hj
    clear hj t2' t3'
    cases hw : x.nums[k].wf
    ·have HF : Hid (x.sumB = false) := Lib.hid (Atm.sumB_no hlt (Atm.num_wf hlt hlt' hw))
     have q0 := cell_regrown C5
     have q1 := cell_regrown d0
     have q2 := cell_regrown d1
     have q3 := cell_regrown d2
     have q4 := cell_regrown d3
     refine wp_region_quiet_below (by kernel_rfl) (by kernel_rfl) ?_
     repeat (first | go_big_quiet_skip | quiet_step (first | (go_at_call 88; with_reducible refine Calls.regrown_of (zw x.nums[k] _ _ HSG (TKw.below (below_regrown _ _ _))))))
     refine wpQuiet_nil ?_
     intro w9 hw9
     obtain ⟨⟨dq, osq⟩, hw9⟩ := hw9
     have hb9 : Below wr.heap.size wr w9 := hw9 ▸ below_regrown wr dq osq
     clear hw9 q0 q1 q2 q3 q4
     go_wp2_with fail
     go_ret
     exact ⟨retB HF.out.symm, hB.trans (hb9.mono hB.size)⟩
    have HW := Lib.hid hw
    cases hn : (x.times[k] == 0)
    rotate_left
    ·have HF : Hid (x.sumB = false) := Lib.hid (Atm.sumB_no hlt (Atm.num_nil hlt hlt' hn))
     have q0 := cell_regrown C5
     have q1 := cell_regrown d0
     have q2 := cell_regrown d1
     have q3 := cell_regrown d2
     have q4 := cell_regrown d3
     refine wp_region_quiet_below (by kernel_rfl) (by kernel_rfl) ?_
     repeat (first | go_big_quiet_skip | quiet_step (first | (go_at_call 88; with_reducible refine Calls.regrown_of (zw x.nums[k] _ _ HSG (TKw.below (below_regrown _ _ _))))))
     refine wpQuiet_nil ?_
     intro w9 hw9
     obtain ⟨⟨dq, osq⟩, hw9⟩ := hw9
     have hb9 : Below wr.heap.size wr w9 := hw9 ▸ below_regrown wr dq osq
     clear hw9 q0 q1 q2 q3 q4
     go_wp2_with fail
     go_ret
     exact ⟨retB HF.out.symm, hB.trans (hb9.mono hB.size)⟩
    by_cases hi1 : -50 ≤ x.times[k]
    rotate_left
    ·have ti : decide (x.times[k] < (-50 : Int)) = true := by simp; omega
     have HF : Hid (x.sumB = false) := Lib.hid (Atm.sumB_no hlt (Atm.num_in hlt hlt' (by rw [decide_eq_false hi1]; rfl)))
     have q0 := cell_regrown C5
     have q1 := cell_regrown d0
     have q2 := cell_regrown d1
     have q3 := cell_regrown d2
     have q4 := cell_regrown d3
     refine wp_region_quiet_below (by kernel_rfl) (by kernel_rfl) ?_
     repeat (first | go_big_quiet_skip | quiet_step (first | (go_at_call 88; with_reducible refine Calls.regrown_of (zw x.nums[k] _ _ HSG (TKw.below (below_regrown _ _ _))))))
     refine wpQuiet_nil ?_
     intro w9 hw9
     obtain ⟨⟨dq, osq⟩, hw9⟩ := hw9
     have hb9 : Below wr.heap.size wr w9 := hw9 ▸ below_regrown wr dq osq
     clear hw9 q0 q1 q2 q3 q4
     go_wp2_with fail
     go_ret
     exact ⟨retB HF.out.symm, hB.trans (hb9.mono hB.size)⟩
    have ti : decide (x.times[k] < (-50 : Int)) = false := by simp; omega
    by_cases hi2 : x.times[k] ≤ 50
    rotate_left
    ·have ti2 : decide ((50 : Int) < x.times[k]) = true := by simp; omega
     have HF : Hid (x.sumB = false) := Lib.hid (Atm.sumB_no hlt (Atm.num_in hlt hlt' (by rw [decide_eq_false hi2]; simp)))
     have q0 := cell_regrown C5
     have q1 := cell_regrown d0
     have q2 := cell_regrown d1
     have q3 := cell_regrown d2
     have q4 := cell_regrown d3
     refine wp_region_quiet_below (by kernel_rfl) (by kernel_rfl) ?_
     repeat (first | go_big_quiet_skip | quiet_step (first | (go_at_call 88; with_reducible refine Calls.regrown_of (zw x.nums[k] _ _ HSG (TKw.below (below_regrown _ _ _))))))
     refine wpQuiet_nil ?_
     intro w9 hw9
     obtain ⟨⟨dq, osq⟩, hw9⟩ := hw9
     have hb9 : Below wr.heap.size wr w9 := hw9 ▸ below_regrown wr dq osq
     clear hw9 q0 q1 q2 q3 q4
     go_wp2_with fail
     go_ret
     exact ⟨retB HF.out.symm, hB.trans (hb9.mono hB.size)⟩
    have ti2 : decide ((50 : Int) < x.times[k]) = false := by simp; omega
    have HI : Hid ((decide ((-50 : Int) ≤ x.times[k]) && decide (x.times[k] ≤ 50)) = true) := Lib.hid (by rw [decide_eq_true hi1, decide_eq_true hi2]; rfl)
    have HNE := Lib.hid (Atm.num_next HKJ.out hlj hlt hlt' HW.out HI.out hn)
    have hge := zbY 9 x.nums[j].text x.nums[k].text
    cases hl : nmLt x.nums[j].text x.nums[k].text
    ·have HF : Hid (x.sumB = false) := Lib.hid (Atm.sumB_no hlt (by rw [HNE.out, hl]))
     rw [hl] at hge
     simp only [Bool.not_false] at hge
     clear hl
     have q0 := cell_regrown C5
     have q1 := cell_regrown d0
     have q2 := cell_regrown d1
     have q3 := cell_regrown d2
     have q4 := cell_regrown d3
     refine wp_region_quiet_below (by kernel_rfl) (by kernel_rfl) ?_
     repeat (first | go_big_quiet_skip | quiet_step (first | (go_at_call 88; with_reducible refine Calls.regrown_of (zw x.nums[k] _ _ HSG (TKw.below (below_regrown _ _ _)))) | (go_at_call 66; with_reducible refine Calls.regrown_of (zae _ x.nums[j] 4 _ _ (Nat.le_refl _) HSZ HSJ (TJw.below (below_regrown _ _ _)))) | (go_at_call 66; with_reducible refine Calls.regrown_of (zae _ x.nums[k] 4 _ _ (Nat.le_refl _) HSK (Tm.wf_shape HW.out) (TKw.below (below_regrown _ _ _))))))
     refine wpQuiet_nil ?_
     intro w9 hw9
     obtain ⟨⟨dq, osq⟩, hw9⟩ := hw9
     have hb9 : Below wr.heap.size wr w9 := hw9 ▸ below_regrown wr dq osq
     clear hw9 q0 q1 q2 q3 q4
     go_wp2_with fail
     go_ret
     exact ⟨retB HF.out.symm, hB.trans (hb9.mono hB.size)⟩
    ·have HS := Lib.hid (Atm.upto_succ hall.out (by rw [HNE.out, hl]))
     rw [hl] at hge
     simp only [Bool.not_true] at hge
     clear hl
     have q0 := cell_regrown C5
     have q1 := cell_regrown d0
     have q2 := cell_regrown d1
     have q3 := cell_regrown d2
     have q4 := cell_regrown d3
     refine wp_region_quiet_below (by kernel_rfl) (by kernel_rfl) ?_
     repeat (first | go_big_quiet_skip | quiet_step (first | (go_at_call 88; with_reducible refine Calls.regrown_of (zw x.nums[k] _ _ HSG (TKw.below (below_regrown _ _ _)))) | (go_at_call 66; with_reducible refine Calls.regrown_of (zae _ x.nums[j] 4 _ _ (Nat.le_refl _) HSZ HSJ (TJw.below (below_regrown _ _ _)))) | (go_at_call 66; with_reducible refine Calls.regrown_of (zae _ x.nums[k] 4 _ _ (Nat.le_refl _) HSK (Tm.wf_shape HW.out) (TKw.below (below_regrown _ _ _))))))
     refine wpQuiet_nil ?_
     intro w9 hw9
     obtain ⟨⟨dq, osq⟩, hw9⟩ := hw9
     have hb9 : Below wr.heap.size wr w9 := hw9 ▸ below_regrown wr dq osq
     clear hw9 q0 q1 q2 q3 q4
     go_wp2_with fail
     go_roundw
     case rel => exact ⟨k + 1, by omega, by go_num, HS, zf hx hz0 hb9, Nat.le_trans hz hb9.size, hB.trans (hb9.mono hB.size)⟩
     case measure => simp [intOf]; omega
  ·have HF : Hid (x.sumB = true) := Lib.hid (Atm.sumB_all HD.out (by omega) hall.out)
   go_wp2_with fail
   go_ret
   exact ⟨retB HF.out.symm, hB⟩
theorem zbv (x : Atm) (vs : List Value) (f : List Nat) (w : World) (hbig : x.small) (hv : RdVs w x.cd vs f) :
  Calls Tryz.prog 77 #[.agg vs.toArray] w fun e w' => e = .returned (.bool x.okB) ∧ Below w.heap.size w w' := by
 obtain ⟨a2, c2, f2, a4, c4, f4, a5, c5, f5, a6, c6, f6, rfl, _, m0, m1, m2, m3, m4, m5, m6, m7⟩ := Atm.open hv
 by_cases k2 : x.kind = 2
 ·skip
  have tk : (x.kind == 2) = true := by simp [k2]
  have KE := Lib.hid (Atm.okB_sum k2)
  clear k2
  go_enter Tryz.func77, Tryz.ntmps77
  go_wp2_with fail
  refine (l6Sum_any x _ _ _ hbig (by exact hv.below (za _ _))).mono ?_
  rintro e w1 ⟨rfl, hb⟩
  go_wp2_with fail
  go_ret
  exact ⟨retB KE.out.symm, (za _ _).trans (hb.mono (by simp))⟩
 have tk : (x.kind == 2) = false := by simp [k2]
 by_cases k1 : x.kind = 1
 rotate_left
 ·skip
  have tk2 : (x.kind == 1) = false := by simp [k1]
  have HF := Lib.hid (Atm.okB_no k1 k2)
  clear k1 k2
  go_enter Tryz.func77, Tryz.ntmps77
  go_wp2_with fail
  go_ret
  exact ⟨retB HF.out.symm, za _ _⟩
 have tk2 : (x.kind == 1) = true := by simp [k1]
 have KE := Lib.hid (Atm.okB_eq k1)
 clear k1 k2
 go_enter Tryz.func77, Tryz.ntmps77
 go_wp2_with fail
 refine (zw x.a _ _ (by have := hbig; unfold Atm.small at this; omega) (by exact (TmR.mk m1 ⟨f2, m2⟩).below (za _ _))).mono ?_
 rintro e wi0 ⟨rfl, hb⟩
 obtain ⟨hx, hz, hB⟩ := box1 (w := w) (wr := wi0) (cs := #[.int .i64 x.kind, .string x.a.name, .slice a2 x.a.kids.length c2, .string x.b.name, .slice a4 x.b.kids.length c4, .slice a5 x.nums.length c5, .slice a6 x.times.length c6, .int .i64 x.bound, .bool x.strict]) (T := 28) (zs hb (by simp))
 clear hb
 have C0 := hx 0
 have C1 := hx 1
 have C2 := hx 2
 have C3 := hx 3
 have C4 := hx 4
 have C5 := hx 5
 have C6 := hx 6
 have C7 := hx 7
 have C8 := hx 8
 simp only [zdP, zdN, zdO] at C0 C1 C2 C3 C4 C5 C6 C7 C8
 cases h0 : x.a.wf
 ·have HF : Hid (x.okB = false) := Lib.hid (by rw [KE.out, Atm.eqB, h0]; simp)
  clear h0
  go_wp2_with fail
  go_ret
  exact ⟨retB HF.out.symm, hB⟩
 have H0 := Lib.hid h0
 clear h0
 go_wp2_with fail
 refine (zw x.b _ _ (by have := hbig; unfold Atm.small at this; omega) (by exact (TmR.mk m3 ⟨f4, m4⟩).below hB)).mono ?_
 rintro e wi1 ⟨rfl, hb⟩
 replace hB := hB.trans (hb.mono (by omega))
 replace hx := zf hx (by omega) hb
 replace hz := Nat.le_trans hz hb.size
 replace C0 := zb C0 hb
 replace C1 := zb C1 hb
 replace C2 := zb C2 hb
 replace C3 := zb C3 hb
 replace C4 := zb C4 hb
 replace C5 := zb C5 hb
 replace C6 := zb C6 hb
 replace C7 := zb C7 hb
 replace C8 := zb C8 hb
 clear hb
 cases h1 : x.b.wf
 ·have HF : Hid (x.okB = false) := Lib.hid (by rw [KE.out, Atm.eqB, h1, H0.out]; simp)
  clear h1
  go_wp2_with fail
  go_ret
  exact ⟨retB HF.out.symm, hB⟩
 have H1 := Lib.hid h1
 clear h1
 cases h2 : ((x.nums.length : Int) == 0)
 ·have HF : Hid (x.okB = false) := Lib.hid (by rw [KE.out, Atm.eqB, h2, H0.out, H1.out]; simp)
  go_wp2_with fail
  go_ret
  exact ⟨retB HF.out.symm, hB⟩
 have H2 := Lib.hid h2
 cases h3 : ((x.times.length : Int) == 0)
 ·have HF : Hid (x.okB = false) := Lib.hid (by rw [KE.out, Atm.eqB, h3, H0.out, H1.out, H2.out]; simp)
  go_wp2_with fail
  go_ret
  exact ⟨retB HF.out.symm, hB⟩
 have H3 := Lib.hid h3
 cases h4 : (x.bound == 0)
 ·have HF : Hid (x.okB = false) := Lib.hid (by rw [KE.out, Atm.eqB, h4, H0.out, H1.out, H2.out, H3.out]; simp)
  go_wp2_with fail
  go_ret
  exact ⟨retB HF.out.symm, hB⟩
 have H4 := Lib.hid h4
 have HF : Hid (x.okB = !x.strict) := Lib.hid (by rw [KE.out, Atm.eqB, H0.out, H1.out, H2.out, H3.out, H4.out]; simp)
 go_wp2_with fail
 go_ret
 exact ⟨retB HF.out.symm, hB⟩
end Go.Proofs.YtoehhbkhdddeeaaGreatDoor
end
