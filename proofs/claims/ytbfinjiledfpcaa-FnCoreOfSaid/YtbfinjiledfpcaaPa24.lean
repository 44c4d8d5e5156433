/- Parts of the proof: AtomS. -/
import Derived.Test.YtbfinjiledfpcaaPa19
section
namespace Go.Proofs.Ytbfinjiledfpcaa
open Go Go.RowKit
set_option linter.unusedVariables false
set_option linter.unusedSimpArgs false
set_option maxRecDepth 100000
set_option maxHeartbeats 16000000
theorem l6Sum_any (x : Atm) (vs : List Value) (f : List Nat) (w : World) (hbig : x.small) (hv : RdVs w x.cd vs f) :
  Calls Try.prog 89 #[.agg vs.toArray] w fun e w' => e = .returned (.bool x.sumB) ∧ Below w.heap.size w w' := by
 obtain ⟨a2, c2, f2, a4, c4, f4, a5, c5, f5, a6, c6, f6, rfl, _, m0, m1, m2, m3, m4, m5, m6, m7⟩ := Atm.open hv; have hlen := zaG m5; have HBIG := zdH hbig; unfold Atm.small at hbig; go_enter Try.func89, Try.ntmps89; go_wp2_with fail; refine (zbL x.a _ _ (by exact (TmR.mk m1 ⟨f2, m2⟩).below (za _ _))).mono ?_; rintro e wi0 ⟨rfl, hb⟩; obtain ⟨hx, hz, hB⟩ := box1 (w := w) (wr := wi0) (cs := (yNa x a2 c2 a4 c4 a5 c5 a6 c6)) (T := 33) (zs hb (by simp)); clear hb; obtain ⟨C0, C1, C2, C3, C4, C5, C6, C7, C8⟩ := yQ9 hx; simp only [zdx, zdv, zdw] at C0 C1 C2 C3 C4 C5 C6 C7 C8
 cases h0 : x.a.noneB
 ·have HF : Hid (x.sumB = false) := zdH (Atm.sumB_hd (by rw [Atm.hdB, h0]; simp))
  clear h0; go_wp2_with fail; go_ret; exact ⟨retB HF.out.symm, hB⟩
 have H0 := zdH h0; clear h0; go_wp2_with fail; refine (zbL x.b _ _ (by exact (TmR.mk m3 ⟨f4, m4⟩).below hB)).mono ?_; rintro e wi1 ⟨rfl, hb⟩; replace hB := hB.trans (hb.mono (by omega)); replace hx := zf hx (by omega) hb; replace hz := zdS hz hb.size; replace C0 := zb C0 hb; replace C1 := zb C1 hb; replace C2 := zb C2 hb; replace C3 := zb C3 hb; replace C4 := zb C4 hb; replace C5 := zb C5 hb; replace C6 := zb C6 hb; replace C7 := zb C7 hb; replace C8 := zb C8 hb; clear hb
 cases h1 : x.b.noneB
 ·have HF : Hid (x.sumB = false) := zdH (Atm.sumB_hd (by rw [Atm.hdB, h1, H0.out]; simp))
  clear h1; go_wp2_with fail; go_ret; exact ⟨retB HF.out.symm, hB⟩
 have H1 := zdH h1; clear h1
 cases h2 : ((x.N.length : Int) != (x.T.length : Int))
 rotate_left
 ·have HF : Hid (x.sumB = false) := zdH (Atm.sumB_hd (by rw [Atm.hdB, H0.out, H1.out, decide_eq_false (fun h => by rw [bne_iff_ne] at h2; exact h2 (by rw [h]))]; simp))
  go_wp2_with fail; go_ret; exact ⟨retB HF.out.symm, hB⟩
 have H3 : Hid (x.N.length = x.T.length) := zdH (by simp at h2; omega)
 by_cases g1 : 1 ≤ x.N.length
 rotate_left
 ·have t1 : decide ((x.N.length : Int) < 1) = true := by simp; omega
  have HF : Hid (x.sumB = false) := zdH (Atm.sumB_hd (by rw [Atm.hdB, decide_eq_false g1]; simp)); go_wp2_with fail; go_ret; exact ⟨retB HF.out.symm, hB⟩
 have t1 : decide ((x.N.length : Int) < 1) = false := by simp; omega
 by_cases g2 : x.N.length ≤ 4
 rotate_left
 ·have t2 : decide ((4 : Int) < (x.N.length : Int)) = true := by simp; omega
  have HF : Hid (x.sumB = false) := zdH (Atm.sumB_hd (by rw [Atm.hdB, decide_eq_false g2]; simp)); go_wp2_with fail; go_ret; exact ⟨retB HF.out.symm, hB⟩
 have t2 : decide ((4 : Int) < (x.N.length : Int)) = false := by simp; omega
 by_cases g3 : -1000 ≤ x.O
 rotate_left
 ·have t3 : decide (x.O < (-1000 : Int)) = true := by simp; omega
  have HF : Hid (x.sumB = false) := zdH (Atm.sumB_hd (by rw [Atm.hdB, decide_eq_false g3]; simp)); go_wp2_with fail; go_ret; exact ⟨retB HF.out.symm, hB⟩
 have t3 : decide (x.O < (-1000 : Int)) = false := by simp; omega
 by_cases g4 : x.O ≤ 1000
 rotate_left
 ·have t4 : decide ((1000 : Int) < x.O) = true := by simp; omega
  have HF : Hid (x.sumB = false) := zdH (Atm.sumB_hd (by rw [Atm.hdB, decide_eq_false g4]; simp)); go_wp2_with fail; go_ret; exact ⟨retB HF.out.symm, hB⟩
 have t4 : decide ((1000 : Int) < x.O) = false := by simp; omega
 have HD : Hid (x.hdB = true) := zdH (by rw [Atm.hdB, H0.out, H1.out, decide_eq_true H3.out, decide_eq_true g1, decide_eq_true g2, decide_eq_true g3, decide_eq_true g4]; rfl); go_wp2_with fail
 go_loopw [3] (fun i wq => ∃ k : Nat, k ≤ x.N.length ∧ i = .int .i64 k ∧ Hid (x.upto k) ∧ (∀ j, wq.cell? ⟨w.heap.size, j, none⟩ = (yNa x a2 c2 a4 c4 a5 c5 a6 c6)[j]?) ∧ w.heap.size + 1 ≤ wq.heap.size ∧ Below w.heap.size w wq) (fun i _ => x.N.length - (intOf i).toNat)
 case atStart => exact ⟨0, zdR _, rfl, zdH x.upto_zero, hx, hz, hB⟩
 case round =>
  clear hx hz hB C0 C1 C2 C3 C4 C5 C6 C7 C8; obtain ⟨k, hkl, rfl, hall, hx, hz, hB⟩ := hrel; have C5 := hx 5; have C6 := hx 6; simp only [zdx, zdv, zdw] at C5 C6
  by_cases hlt : k < x.N.length
  ·skip
   have hlt' : k < x.T.length := by have := H3.out; omega
   obtain ⟨b, off, rfl, hbs, _⟩ := zo m5 (by omega); obtain ⟨b', off', rfl, hbs', _⟩ := zo m6 (by omega); obtain ⟨e1, g1', h1, d0, d1, t0, t1', _⟩ := Tm.at (m5.below hB) hlt; obtain ⟨n0, _⟩ := zS (m6.below hB) hlt'
   have hbz : b < wr.heap.size := by omega
   have hbz' : b' < wr.heap.size := by omega
   have hz0 : w.heap.size < wr.heap.size := by omega
   have HTK := Tm.size_mem (zdB hlt)
   have HSK : x.N[k].size ≤ 1100000 := by omega
   have HSG : x.N[k].size ≤ 1000000000 := by omega
   have HTW := zdH (fun j (h : j < x.N.length) (hj : j < k) => Tm.wf_shape (Atm.upto_wf hall.out H3.out hj h)); have TKw : TmR wr x.N[k] (.agg #[.string x.N[k].name, .slice e1 x.N[k].K.length g1']) := TmR.mk t0 ⟨h1, t1'⟩; clear t0 t1' hbig; go_wp2_with fail
   rcases Nat.eq_zero_or_pos k with hk0 | hkp
   ·skip
    have tg : decide ((0 : Int) < (k : Int)) = false := by simp; omega
    have tg2 : ¬ 0 < k := by omega
    have HK0 := zdH hk0; clear hk0
    cases hw : x.N[k].wf
    ·have HF : Hid (x.sumB = false) := zdH (Atm.sumB_no hlt (Atm.num_wf hlt hlt' hw))
     have q0 := cell_regrown C5; have q1 := cell_regrown d0; have q2 := cell_regrown d1; refine wp_region_quiet_below (by kernel_rfl) (by kernel_rfl) ?_
     repeat (first | go_big_quiet_skip | quiet_step (first | (go_at_call 90; with_reducible refine zdL (zC x.N[k] _ _ HSG (TKw.below (below_regrown _ _ _))))))
     refine wpQuiet_nil ?_; intro w9 hw9; obtain ⟨⟨dq, osq⟩, hw9⟩ := hw9; have hb9 : Below wr.heap.size wr w9 := hw9 ▸ below_regrown wr dq osq; clear hw9 q0 q1 q2; go_wp2_with fail; go_ret; exact ⟨retB HF.out.symm, hB.trans (hb9.mono hB.size)⟩
    have HW := zdH hw
    cases hn : (x.T[k] == 0)
    rotate_left
    ·have HF : Hid (x.sumB = false) := zdH (Atm.sumB_no hlt (Atm.num_nil hlt hlt' hn))
     have q0 := cell_regrown C5; have q1 := cell_regrown d0; have q2 := cell_regrown d1; refine wp_region_quiet_below (by kernel_rfl) (by kernel_rfl) ?_
     repeat (first | go_big_quiet_skip | quiet_step (first | (go_at_call 90; with_reducible refine zdL (zC x.N[k] _ _ HSG (TKw.below (below_regrown _ _ _))))))
     refine wpQuiet_nil ?_; intro w9 hw9; obtain ⟨⟨dq, osq⟩, hw9⟩ := hw9; have hb9 : Below wr.heap.size wr w9 := hw9 ▸ below_regrown wr dq osq; clear hw9 q0 q1 q2; go_wp2_with fail; go_ret; exact ⟨retB HF.out.symm, hB.trans (hb9.mono hB.size)⟩
    by_cases hi1 : -50 ≤ x.T[k]
    rotate_left
    ·have ti : decide (x.T[k] < (-50 : Int)) = true := by simp; omega
     have HF : Hid (x.sumB = false) := zdH (Atm.sumB_no hlt (Atm.num_in hlt hlt' (by rw [decide_eq_false hi1]; rfl))); have q0 := cell_regrown C5; have q1 := cell_regrown d0; have q2 := cell_regrown d1; refine wp_region_quiet_below (by kernel_rfl) (by kernel_rfl) ?_
     repeat (first | go_big_quiet_skip | quiet_step (first | (go_at_call 90; with_reducible refine zdL (zC x.N[k] _ _ HSG (TKw.below (below_regrown _ _ _))))))
     refine wpQuiet_nil ?_; intro w9 hw9; obtain ⟨⟨dq, osq⟩, hw9⟩ := hw9; have hb9 : Below wr.heap.size wr w9 := hw9 ▸ below_regrown wr dq osq; clear hw9 q0 q1 q2; go_wp2_with fail; go_ret; exact ⟨retB HF.out.symm, hB.trans (hb9.mono hB.size)⟩
    have ti : decide (x.T[k] < (-50 : Int)) = false := by simp; omega
    by_cases hi2 : x.T[k] ≤ 50
    rotate_left
    ·have ti2 : decide ((50 : Int) < x.T[k]) = true := by simp; omega
     have HF : Hid (x.sumB = false) := zdH (Atm.sumB_no hlt (Atm.num_in hlt hlt' (by rw [decide_eq_false hi2]; simp))); have q0 := cell_regrown C5; have q1 := cell_regrown d0; have q2 := cell_regrown d1; refine wp_region_quiet_below (by kernel_rfl) (by kernel_rfl) ?_
     repeat (first | go_big_quiet_skip | quiet_step (first | (go_at_call 90; with_reducible refine zdL (zC x.N[k] _ _ HSG (TKw.below (below_regrown _ _ _))))))
     refine wpQuiet_nil ?_; intro w9 hw9; obtain ⟨⟨dq, osq⟩, hw9⟩ := hw9; have hb9 : Below wr.heap.size wr w9 := hw9 ▸ below_regrown wr dq osq; clear hw9 q0 q1 q2; go_wp2_with fail; go_ret; exact ⟨retB HF.out.symm, hB.trans (hb9.mono hB.size)⟩
    have ti2 : decide ((50 : Int) < x.T[k]) = false := by simp; omega
    have HI : Hid ((decide ((-50 : Int) ≤ x.T[k]) && decide (x.T[k] ≤ 50)) = true) := zdH (by rw [decide_eq_true hi1, decide_eq_true hi2]; rfl); have HS := zdH (Atm.upto_succ hall.out (Atm.num_first HK0.out hlt hlt' HW.out HI.out hn)); have q0 := cell_regrown C5; have q1 := cell_regrown d0; have q2 := cell_regrown d1; refine wp_region_quiet_below (by kernel_rfl) (by kernel_rfl) ?_
    repeat (first | go_big_quiet_skip | quiet_step (first | (go_at_call 90; with_reducible refine zdL (zC x.N[k] _ _ HSG (TKw.below (below_regrown _ _ _))))))
    refine wpQuiet_nil ?_; intro w9 hw9; obtain ⟨⟨dq, osq⟩, hw9⟩ := hw9; have hb9 : Below wr.heap.size wr w9 := hw9 ▸ below_regrown wr dq osq; clear hw9 q0 q1 q2; go_wp2_with fail; go_roundw
    case rel => exact ⟨k + 1, by omega, by go_num, HS, zf hx hz0 hb9, zdS hz hb9.size, hB.trans (hb9.mono hB.size)⟩
    case measure => simp [intOf]; omega
   ·skip
    obtain ⟨j, hj⟩ : ∃ j, k = j + 1 := ⟨k - 1, by omega⟩
    have hlj : j < x.N.length := by omega
    obtain ⟨e2, g2', h2', d2, d3, t2', t3', _⟩ := Tm.at (m5.below hB) hlj; have TJw : TmR wr x.N[j] (.agg #[.string x.N[j].name, .slice e2 x.N[j].K.length g2']) := TmR.mk t2' ⟨h2', t3'⟩; have HTJ := Tm.size_mem (zdB hlj)
    have HSZ : x.N[j].size ≤ 1100000 := by have := HBIG.out; unfold Atm.small at this; omega
    have HSJ := HTW.out j hlj (by omega)
    have tg : decide ((0 : Int) < (k : Int)) = true := by simp; omega
    have hs1 : IntKind.i64.wrap ((k : Int) - 1) = (j : Int) := by rw [IntWalk.i64_in _ (by omega)]; omega
    have HKJ := zdH hj; clear hj t2' t3'
    cases hw : x.N[k].wf
    ·have HF : Hid (x.sumB = false) := zdH (Atm.sumB_no hlt (Atm.num_wf hlt hlt' hw))
     have q0 := cell_regrown C5; have q1 := cell_regrown d0; have q2 := cell_regrown d1; have q3 := cell_regrown d2; have q4 := cell_regrown d3; refine wp_region_quiet_below (by kernel_rfl) (by kernel_rfl) ?_
     repeat (first | go_big_quiet_skip | quiet_step (first | (go_at_call 90; with_reducible refine zdL (zC x.N[k] _ _ HSG (TKw.below (below_regrown _ _ _))))))
     refine wpQuiet_nil ?_; intro w9 hw9; obtain ⟨⟨dq, osq⟩, hw9⟩ := hw9; have hb9 : Below wr.heap.size wr w9 := hw9 ▸ below_regrown wr dq osq; clear hw9 q0 q1 q2 q3 q4; go_wp2_with fail; go_ret; exact ⟨retB HF.out.symm, hB.trans (hb9.mono hB.size)⟩
    have HW := zdH hw
    cases hn : (x.T[k] == 0)
    rotate_left
    ·have HF : Hid (x.sumB = false) := zdH (Atm.sumB_no hlt (Atm.num_nil hlt hlt' hn))
     have q0 := cell_regrown C5; have q1 := cell_regrown d0; have q2 := cell_regrown d1; have q3 := cell_regrown d2; have q4 := cell_regrown d3; refine wp_region_quiet_below (by kernel_rfl) (by kernel_rfl) ?_
     repeat (first | go_big_quiet_skip | quiet_step (first | (go_at_call 90; with_reducible refine zdL (zC x.N[k] _ _ HSG (TKw.below (below_regrown _ _ _))))))
     refine wpQuiet_nil ?_; intro w9 hw9; obtain ⟨⟨dq, osq⟩, hw9⟩ := hw9; have hb9 : Below wr.heap.size wr w9 := hw9 ▸ below_regrown wr dq osq; clear hw9 q0 q1 q2 q3 q4; go_wp2_with fail; go_ret; exact ⟨retB HF.out.symm, hB.trans (hb9.mono hB.size)⟩
    by_cases hi1 : -50 ≤ x.T[k]
    rotate_left
    ·have ti : decide (x.T[k] < (-50 : Int)) = true := by simp; omega
     have HF : Hid (x.sumB = false) := zdH (Atm.sumB_no hlt (Atm.num_in hlt hlt' (by rw [decide_eq_false hi1]; rfl))); have q0 := cell_regrown C5; have q1 := cell_regrown d0; have q2 := cell_regrown d1; have q3 := cell_regrown d2; have q4 := cell_regrown d3; refine wp_region_quiet_below (by kernel_rfl) (by kernel_rfl) ?_
     repeat (first | go_big_quiet_skip | quiet_step (first | (go_at_call 90; with_reducible refine zdL (zC x.N[k] _ _ HSG (TKw.below (below_regrown _ _ _))))))
     refine wpQuiet_nil ?_; intro w9 hw9; obtain ⟨⟨dq, osq⟩, hw9⟩ := hw9; have hb9 : Below wr.heap.size wr w9 := hw9 ▸ below_regrown wr dq osq; clear hw9 q0 q1 q2 q3 q4; go_wp2_with fail; go_ret; exact ⟨retB HF.out.symm, hB.trans (hb9.mono hB.size)⟩
    have ti : decide (x.T[k] < (-50 : Int)) = false := by simp; omega
    by_cases hi2 : x.T[k] ≤ 50
    rotate_left
    ·have ti2 : decide ((50 : Int) < x.T[k]) = true := by simp; omega
     have HF : Hid (x.sumB = false) := zdH (Atm.sumB_no hlt (Atm.num_in hlt hlt' (by rw [decide_eq_false hi2]; simp))); have q0 := cell_regrown C5; have q1 := cell_regrown d0; have q2 := cell_regrown d1; have q3 := cell_regrown d2; have q4 := cell_regrown d3; refine wp_region_quiet_below (by kernel_rfl) (by kernel_rfl) ?_
     repeat (first | go_big_quiet_skip | quiet_step (first | (go_at_call 90; with_reducible refine zdL (zC x.N[k] _ _ HSG (TKw.below (below_regrown _ _ _))))))
     refine wpQuiet_nil ?_; intro w9 hw9; obtain ⟨⟨dq, osq⟩, hw9⟩ := hw9; have hb9 : Below wr.heap.size wr w9 := hw9 ▸ below_regrown wr dq osq; clear hw9 q0 q1 q2 q3 q4; go_wp2_with fail; go_ret; exact ⟨retB HF.out.symm, hB.trans (hb9.mono hB.size)⟩
    have ti2 : decide ((50 : Int) < x.T[k]) = false := by simp; omega
    have HI : Hid ((decide ((-50 : Int) ≤ x.T[k]) && decide (x.T[k] ≤ 50)) = true) := zdH (by rw [decide_eq_true hi1, decide_eq_true hi2]; rfl); have HNE := zdH (Atm.num_next HKJ.out hlj hlt hlt' HW.out HI.out hn); have hge := zcL 9 x.N[j].text x.N[k].text
    cases hl : nmLt x.N[j].text x.N[k].text
    ·have HF : Hid (x.sumB = false) := zdH (Atm.sumB_no hlt (by rw [HNE.out, hl]))
     rw [hl] at hge; simp only [Bool.not_false] at hge; clear hl; have q0 := cell_regrown C5; have q1 := cell_regrown d0; have q2 := cell_regrown d1; have q3 := cell_regrown d2; have q4 := cell_regrown d3; refine wp_region_quiet_below (by kernel_rfl) (by kernel_rfl) ?_
     repeat (first | go_big_quiet_skip | quiet_step (first | (go_at_call 90; with_reducible refine zdL (zC x.N[k] _ _ HSG (TKw.below (below_regrown _ _ _)))) | (go_at_call 91; with_reducible refine zdL (zag _ x.N[j] 4 _ _ (zdI _) HSZ HSJ (TJw.below (below_regrown _ _ _)))) | (go_at_call 91; with_reducible refine zdL (zag _ x.N[k] 4 _ _ (zdI _) HSK (Tm.wf_shape HW.out) (TKw.below (below_regrown _ _ _))))))
     refine wpQuiet_nil ?_; intro w9 hw9; obtain ⟨⟨dq, osq⟩, hw9⟩ := hw9; have hb9 : Below wr.heap.size wr w9 := hw9 ▸ below_regrown wr dq osq; clear hw9 q0 q1 q2 q3 q4; go_wp2_with fail; go_ret; exact ⟨retB HF.out.symm, hB.trans (hb9.mono hB.size)⟩
    ·have HS := zdH (Atm.upto_succ hall.out (by rw [HNE.out, hl]))
     rw [hl] at hge; simp only [Bool.not_true] at hge; clear hl; have q0 := cell_regrown C5; have q1 := cell_regrown d0; have q2 := cell_regrown d1; have q3 := cell_regrown d2; have q4 := cell_regrown d3; refine wp_region_quiet_below (by kernel_rfl) (by kernel_rfl) ?_
     repeat (first | go_big_quiet_skip | quiet_step (first | (go_at_call 90; with_reducible refine zdL (zC x.N[k] _ _ HSG (TKw.below (below_regrown _ _ _)))) | (go_at_call 91; with_reducible refine zdL (zag _ x.N[j] 4 _ _ (zdI _) HSZ HSJ (TJw.below (below_regrown _ _ _)))) | (go_at_call 91; with_reducible refine zdL (zag _ x.N[k] 4 _ _ (zdI _) HSK (Tm.wf_shape HW.out) (TKw.below (below_regrown _ _ _))))))
     refine wpQuiet_nil ?_; intro w9 hw9; obtain ⟨⟨dq, osq⟩, hw9⟩ := hw9; have hb9 : Below wr.heap.size wr w9 := hw9 ▸ below_regrown wr dq osq; clear hw9 q0 q1 q2 q3 q4; go_wp2_with fail; go_roundw
     case rel => exact ⟨k + 1, by omega, by go_num, HS, zf hx hz0 hb9, zdS hz hb9.size, hB.trans (hb9.mono hB.size)⟩
     case measure => simp [intOf]; omega
  ·have HF : Hid (x.sumB = true) := zdH (Atm.sumB_all HD.out (by omega) hall.out)
   go_wp2_with fail; go_ret; exact ⟨retB HF.out.symm, hB⟩
theorem zaW (x : Atm) (vs : List Value) (f : List Nat) (w : World) (hbig : x.small) (hv : RdVs w x.cd vs f) :
  Calls Try.prog 75 #[.agg vs.toArray] w fun e w' => e = .returned (.bool x.okB) ∧ Below w.heap.size w w' := by
 obtain ⟨a2, c2, f2, a4, c4, f4, a5, c5, f5, a6, c6, f6, rfl, _, m0, m1, m2, m3, m4, m5, m6, m7⟩ := Atm.open hv
 by_cases k2 : x.kind = 2
 ·skip
  have tk : (x.kind == 2) = true := by simp [k2]
  have KE := zdH (Atm.okB_sum k2); clear k2; go_enter Try.func75, Try.ntmps75; go_wp2_with fail; refine (l6Sum_any x _ _ _ hbig (by exact hv.below (za _ _))).mono ?_; rintro e w1 ⟨rfl, hb⟩; go_wp2_with fail; go_ret; exact ⟨retB KE.out.symm, (za _ _).trans (hb.mono (by simp))⟩
 have tk : (x.kind == 2) = false := by simp [k2]
 by_cases k1 : x.kind = 1
 rotate_left
 ·skip
  have tk2 : (x.kind == 1) = false := by simp [k1]
  have HF := zdH (Atm.okB_no k1 k2); clear k1 k2; go_enter Try.func75, Try.ntmps75; go_wp2_with fail; go_ret; exact ⟨retB HF.out.symm, za _ _⟩
 have tk2 : (x.kind == 1) = true := by simp [k1]
 have KE := zdH (Atm.okB_eq k1); clear k1 k2; go_enter Try.func75, Try.ntmps75; go_wp2_with fail; refine (zC x.a _ _ (by have := hbig; unfold Atm.small at this; omega) (by exact (TmR.mk m1 ⟨f2, m2⟩).below (za _ _))).mono ?_; rintro e wi0 ⟨rfl, hb⟩; obtain ⟨hx, hz, hB⟩ := box1 (w := w) (wr := wi0) (cs := (yNa x a2 c2 a4 c4 a5 c5 a6 c6)) (T := 33) (zs hb (by simp)); clear hb; obtain ⟨C0, C1, C2, C3, C4, C5, C6, C7, C8⟩ := yQ9 hx; simp only [zdx, zdv, zdw] at C0 C1 C2 C3 C4 C5 C6 C7 C8
 cases h0 : x.a.wf
 ·have HF : Hid (x.okB = false) := zdH (by rw [KE.out, Atm.eqB, h0]; simp)
  clear h0; go_wp2_with fail; go_ret; exact ⟨retB HF.out.symm, hB⟩
 have H0 := zdH h0; clear h0; go_wp2_with fail; refine (zC x.b _ _ (by have := hbig; unfold Atm.small at this; omega) (by exact (TmR.mk m3 ⟨f4, m4⟩).below hB)).mono ?_; rintro e wi1 ⟨rfl, hb⟩; replace hB := hB.trans (hb.mono (by omega)); replace hx := zf hx (by omega) hb; replace hz := zdS hz hb.size; replace C0 := zb C0 hb; replace C1 := zb C1 hb; replace C2 := zb C2 hb; replace C3 := zb C3 hb; replace C4 := zb C4 hb; replace C5 := zb C5 hb; replace C6 := zb C6 hb; replace C7 := zb C7 hb; replace C8 := zb C8 hb; clear hb
 cases h1 : x.b.wf
 ·have HF : Hid (x.okB = false) := zdH (by rw [KE.out, Atm.eqB, h1, H0.out]; simp)
  clear h1; go_wp2_with fail; go_ret; exact ⟨retB HF.out.symm, hB⟩
 have H1 := zdH h1; clear h1
 cases h2 : ((x.N.length : Int) == 0)
 ·have HF : Hid (x.okB = false) := zdH (by rw [KE.out, Atm.eqB, h2, H0.out, H1.out]; simp)
  go_wp2_with fail; go_ret; exact ⟨retB HF.out.symm, hB⟩
 have H2 := zdH h2
 cases h3 : ((x.T.length : Int) == 0)
 ·have HF : Hid (x.okB = false) := zdH (by rw [KE.out, Atm.eqB, h3, H0.out, H1.out, H2.out]; simp)
  go_wp2_with fail; go_ret; exact ⟨retB HF.out.symm, hB⟩
 have H3 := zdH h3
 cases h4 : (x.O == 0)
 ·have HF : Hid (x.okB = false) := zdH (by rw [KE.out, Atm.eqB, h4, H0.out, H1.out, H2.out, H3.out]; simp)
  go_wp2_with fail; go_ret; exact ⟨retB HF.out.symm, hB⟩
 have H4 := zdH h4; have HF : Hid (x.okB = !x.C) := zdH (by rw [KE.out, Atm.eqB, H0.out, H1.out, H2.out, H3.out, H4.out]; simp); go_wp2_with fail; go_ret; exact ⟨retB HF.out.symm, hB⟩
end Go.Proofs.Ytbfinjiledfpcaa
end
