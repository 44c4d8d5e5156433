/- Parts of the proof: AtomS LitT Num StackN2. -/
import Derived.Test.YtbfinjiledfpcaaGreatPT6
import Derived.Deep.RegionHeld3
import Derived.Test.YtbfinjiledfpcaaGreatPT3
import Derived.Test.YtbfinjiledfpcaaGreatPT5
section
namespace Go.Proofs.YtbfinjiledfpcaaGreat
open Go Go.RowKit
set_option linter.unusedVariables false
set_option linter.unusedSimpArgs false
set_option maxRecDepth 100000
set_option maxHeartbeats 16000000
theorem l6Sum_any (x : Atm) (vs : List Value) (f : List Nat) (w : World) (hbig : x.small) (hv : RdVs w x.cd vs f) :
  Calls Tryz.prog 137 #[.agg vs.toArray] w fun e w' => e = .returned (.bool x.sumB) ∧ Below w.heap.size w w' := by
 obtain ⟨a2, c2, f2, a4, c4, f4, a5, c5, f5, a6, c6, f6, rfl, _, m0, m1, m2, m3, m4, m5, m6, m7⟩ := Atm.open hv; have hlen := zao m5; have HBIG := zgn hbig; unfold Atm.small at hbig; go_enter Tryz.func137, Tryz.ntmps137; go_wp2_with fail; refine (zdm x.a _ _ (by exact (TmR.mk m1 ⟨f2, m2⟩).below (zb _ _))).mono ?_; rintro e wi0 ⟨rfl, hb⟩; obtain ⟨hx, hz, hB⟩ := box1 (w := w) (wr := wi0) (cs := (yNa x a2 c2 a4 c4 a5 c5 a6 c6)) (T := 31) (zm hb (by simp)); clear hb; obtain ⟨C0, C1, C2, C3, C4, C5, C6, C7, C8⟩ := yQ9 hx; simp only [zgd, zgb, zgc] at C0 C1 C2 C3 C4 C5 C6 C7 C8
 cases h0 : x.a.noneB
 ·have HF : Hid (x.sumB = false) := zgn (Atm.sumB_hd (by rw [Atm.hdB, h0]; simp))
  clear h0; go_wp2_with fail; go_ret; exact ⟨retB HF.out.symm, hB⟩
 have H0 := zgn h0; clear h0; go_wp2_with fail; refine (zdm x.b _ _ (by exact (TmR.mk m3 ⟨f4, m4⟩).below hB)).mono ?_; rintro e wi1 ⟨rfl, hb⟩; replace hB := hB.trans (hb.mono (by omega)); replace hx := zh hx (by omega) hb; replace hz := zgy hz hb.size; replace C0 := za C0 hb; replace C1 := za C1 hb; replace C2 := za C2 hb; replace C3 := za C3 hb; replace C4 := za C4 hb; replace C5 := za C5 hb; replace C6 := za C6 hb; replace C7 := za C7 hb; replace C8 := za C8 hb; clear hb
 cases h1 : x.b.noneB
 ·have HF : Hid (x.sumB = false) := zgn (Atm.sumB_hd (by rw [Atm.hdB, h1, H0.out]; simp))
  clear h1; go_wp2_with fail; go_ret; exact ⟨retB HF.out.symm, hB⟩
 have H1 := zgn h1; clear h1
 cases h2 : ((x.N.length : Int) != (x.T.length : Int))
 rotate_left
 ·have HF : Hid (x.sumB = false) := zgn (Atm.sumB_hd (by rw [Atm.hdB, H0.out, H1.out, decide_eq_false (fun h => by rw [bne_iff_ne] at h2; exact h2 (by rw [h]))]; simp))
  go_wp2_with fail; go_ret; exact ⟨retB HF.out.symm, hB⟩
 have H3 : Hid (x.N.length = x.T.length) := zgn (by simp at h2; omega)
 by_cases g1 : 1 ≤ x.N.length
 rotate_left
 ·have t1 : decide ((x.N.length : Int) < 1) = true := by simp; omega
  have HF : Hid (x.sumB = false) := zgn (Atm.sumB_hd (by rw [Atm.hdB, decide_eq_false g1]; simp)); go_wp2_with fail; go_ret; exact ⟨retB HF.out.symm, hB⟩
 have t1 : decide ((x.N.length : Int) < 1) = false := by simp; omega
 by_cases g2 : x.N.length ≤ 4
 rotate_left
 ·have t2 : decide ((4 : Int) < (x.N.length : Int)) = true := by simp; omega
  have HF : Hid (x.sumB = false) := zgn (Atm.sumB_hd (by rw [Atm.hdB, decide_eq_false g2]; simp)); go_wp2_with fail; go_ret; exact ⟨retB HF.out.symm, hB⟩
 have t2 : decide ((4 : Int) < (x.N.length : Int)) = false := by simp; omega
 by_cases g3 : -1000 ≤ x.O
 rotate_left
 ·have t3 : decide (x.O < (-1000 : Int)) = true := by simp; omega
  have HF : Hid (x.sumB = false) := zgn (Atm.sumB_hd (by rw [Atm.hdB, decide_eq_false g3]; simp)); go_wp2_with fail; go_ret; exact ⟨retB HF.out.symm, hB⟩
 have t3 : decide (x.O < (-1000 : Int)) = false := by simp; omega
 by_cases g4 : x.O ≤ 1000
 rotate_left
 ·have t4 : decide ((1000 : Int) < x.O) = true := by simp; omega
  have HF : Hid (x.sumB = false) := zgn (Atm.sumB_hd (by rw [Atm.hdB, decide_eq_false g4]; simp)); go_wp2_with fail; go_ret; exact ⟨retB HF.out.symm, hB⟩
 have t4 : decide ((1000 : Int) < x.O) = false := by simp; omega
 have HD : Hid (x.hdB = true) := zgn (by rw [Atm.hdB, H0.out, H1.out, decide_eq_true H3.out, decide_eq_true g1, decide_eq_true g2, decide_eq_true g3, decide_eq_true g4]; rfl); go_wp2_with fail
 go_loopw [3] (fun i wq => ∃ k : Nat, k ≤ x.N.length ∧ i = .int .i64 k ∧ Hid (x.upto k) ∧ (∀ j, wq.cell? ⟨w.heap.size, j, none⟩ = (yNa x a2 c2 a4 c4 a5 c5 a6 c6)[j]?) ∧ w.heap.size + 1 ≤ wq.heap.size ∧ Below w.heap.size w wq) (fun i _ => x.N.length - (intOf i).toNat)
 case atStart => exact ⟨0, zgx _, rfl, zgn x.upto_zero, hx, hz, hB⟩
 case round =>
  clear hx hz hB C0 C1 C2 C3 C4 C5 C6 C7 C8; obtain ⟨k, hkl, rfl, hall, hx, hz, hB⟩ := hrel; have C5 := hx 5; have C6 := hx 6; simp only [zgd, zgb, zgc] at C5 C6
  by_cases hlt : k < x.N.length
  ·skip
   have hlt' : k < x.T.length := by have := H3.out; omega
   obtain ⟨b, off, rfl, hbs, _⟩ := zl m5 (by omega); obtain ⟨b', off', rfl, hbs', _⟩ := zl m6 (by omega); obtain ⟨e1, g1', h1, d0, d1, t0, t1', _⟩ := Tm.at (m5.below hB) hlt; obtain ⟨n0, _⟩ := zan (m6.below hB) hlt'
   have hbz : b < wr.heap.size := by omega
   have hbz' : b' < wr.heap.size := by omega
   have hz0 : w.heap.size < wr.heap.size := by omega
   have HTK := Tm.size_mem (zgh hlt)
   have HSK : x.N[k].size ≤ 1100000 := by omega
   have HSG : x.N[k].size ≤ 1000000000 := by omega
   have HTW := zgn (fun j (h : j < x.N.length) (hj : j < k) => Tm.wf_shape (Atm.upto_wf hall.out H3.out hj h)); have TKw : TmR wr x.N[k] (.agg #[.string x.N[k].name, .slice e1 x.N[k].K.length g1']) := TmR.mk t0 ⟨h1, t1'⟩; clear t0 t1' hbig; go_wp2_with fail
   rcases Nat.eq_zero_or_pos k with hk0 | hkp
   ·skip
    have tg : decide ((0 : Int) < (k : Int)) = false := by simp; omega
    have tg2 : ¬ 0 < k := by omega
    have HK0 := zgn hk0; clear hk0
    cases hw : x.N[k].wf
    ·have HF : Hid (x.sumB = false) := zgn (Atm.sumB_no hlt (Atm.num_wf hlt hlt' hw))
     have q0 := cell_regrown C5; have q1 := cell_regrown d0; have q2 := cell_regrown d1; refine wp_region_quiet_below (by kernel_rfl) (by kernel_rfl) ?_
     repeat (first | go_big_quiet_skip | quiet_step (first | (go_at_call 138; with_reducible refine zgr (zV x.N[k] _ _ HSG (TKw.below (below_regrown _ _ _))))))
     refine wpQuiet_nil ?_; intro w9 hw9; obtain ⟨⟨dq, osq⟩, hw9⟩ := hw9; have hb9 : Below wr.heap.size wr w9 := hw9 ▸ below_regrown wr dq osq; clear hw9 q0 q1 q2; go_wp2_with fail; go_ret; exact ⟨retB HF.out.symm, hB.trans (hb9.mono hB.size)⟩
    have HW := zgn hw
    cases hn : (x.T[k] == 0)
    rotate_left
    ·have HF : Hid (x.sumB = false) := zgn (Atm.sumB_no hlt (Atm.num_nil hlt hlt' hn))
     have q0 := cell_regrown C5; have q1 := cell_regrown d0; have q2 := cell_regrown d1; refine wp_region_quiet_below (by kernel_rfl) (by kernel_rfl) ?_
     repeat (first | go_big_quiet_skip | quiet_step (first | (go_at_call 138; with_reducible refine zgr (zV x.N[k] _ _ HSG (TKw.below (below_regrown _ _ _))))))
     refine wpQuiet_nil ?_; intro w9 hw9; obtain ⟨⟨dq, osq⟩, hw9⟩ := hw9; have hb9 : Below wr.heap.size wr w9 := hw9 ▸ below_regrown wr dq osq; clear hw9 q0 q1 q2; go_wp2_with fail; go_ret; exact ⟨retB HF.out.symm, hB.trans (hb9.mono hB.size)⟩
    by_cases hi1 : -50 ≤ x.T[k]
    rotate_left
    ·have ti : decide (x.T[k] < (-50 : Int)) = true := by simp; omega
     have HF : Hid (x.sumB = false) := zgn (Atm.sumB_no hlt (Atm.num_in hlt hlt' (by rw [decide_eq_false hi1]; rfl))); have q0 := cell_regrown C5; have q1 := cell_regrown d0; have q2 := cell_regrown d1; refine wp_region_quiet_below (by kernel_rfl) (by kernel_rfl) ?_
     repeat (first | go_big_quiet_skip | quiet_step (first | (go_at_call 138; with_reducible refine zgr (zV x.N[k] _ _ HSG (TKw.below (below_regrown _ _ _))))))
     refine wpQuiet_nil ?_; intro w9 hw9; obtain ⟨⟨dq, osq⟩, hw9⟩ := hw9; have hb9 : Below wr.heap.size wr w9 := hw9 ▸ below_regrown wr dq osq; clear hw9 q0 q1 q2; go_wp2_with fail; go_ret; exact ⟨retB HF.out.symm, hB.trans (hb9.mono hB.size)⟩
    have ti : decide (x.T[k] < (-50 : Int)) = false := by simp; omega
    by_cases hi2 : x.T[k] ≤ 50
    rotate_left
    ·have ti2 : decide ((50 : Int) < x.T[k]) = true := by simp; omega
     have HF : Hid (x.sumB = false) := zgn (Atm.sumB_no hlt (Atm.num_in hlt hlt' (by rw [decide_eq_false hi2]; simp))); have q0 := cell_regrown C5; have q1 := cell_regrown d0; have q2 := cell_regrown d1; refine wp_region_quiet_below (by kernel_rfl) (by kernel_rfl) ?_
     repeat (first | go_big_quiet_skip | quiet_step (first | (go_at_call 138; with_reducible refine zgr (zV x.N[k] _ _ HSG (TKw.below (below_regrown _ _ _))))))
     refine wpQuiet_nil ?_; intro w9 hw9; obtain ⟨⟨dq, osq⟩, hw9⟩ := hw9; have hb9 : Below wr.heap.size wr w9 := hw9 ▸ below_regrown wr dq osq; clear hw9 q0 q1 q2; go_wp2_with fail; go_ret; exact ⟨retB HF.out.symm, hB.trans (hb9.mono hB.size)⟩
    have ti2 : decide ((50 : Int) < x.T[k]) = false := by simp; omega
    have HI : Hid ((decide ((-50 : Int) ≤ x.T[k]) && decide (x.T[k] ≤ 50)) = true) := zgn (by rw [decide_eq_true hi1, decide_eq_true hi2]; rfl); have HS := zgn (Atm.upto_succ hall.out (Atm.num_first HK0.out hlt hlt' HW.out HI.out hn)); have q0 := cell_regrown C5; have q1 := cell_regrown d0; have q2 := cell_regrown d1; refine wp_region_quiet_below (by kernel_rfl) (by kernel_rfl) ?_
    repeat (first | go_big_quiet_skip | quiet_step (first | (go_at_call 138; with_reducible refine zgr (zV x.N[k] _ _ HSG (TKw.below (below_regrown _ _ _))))))
    refine wpQuiet_nil ?_; intro w9 hw9; obtain ⟨⟨dq, osq⟩, hw9⟩ := hw9; have hb9 : Below wr.heap.size wr w9 := hw9 ▸ below_regrown wr dq osq; clear hw9 q0 q1 q2; go_wp2_with fail; go_roundw
    case rel => exact ⟨k + 1, by omega, by go_num, HS, zh hx hz0 hb9, zgy hz hb9.size, hB.trans (hb9.mono hB.size)⟩
    case measure => simp [intOf]; omega
   ·skip
    obtain ⟨j, hj⟩ : ∃ j, k = j + 1 := ⟨k - 1, by omega⟩
    have hlj : j < x.N.length := by omega
    obtain ⟨e2, g2', h2', d2, d3, t2', t3', _⟩ := Tm.at (m5.below hB) hlj; have TJw : TmR wr x.N[j] (.agg #[.string x.N[j].name, .slice e2 x.N[j].K.length g2']) := TmR.mk t2' ⟨h2', t3'⟩; have HTJ := Tm.size_mem (zgh hlj)
    have HSZ : x.N[j].size ≤ 1100000 := by have := HBIG.out; unfold Atm.small at this; omega
    have HSJ := HTW.out j hlj (by omega)
    have tg : decide ((0 : Int) < (k : Int)) = true := by simp; omega
    have hs1 : IntKind.i64.wrap ((k : Int) - 1) = (j : Int) := by rw [IntWalk.i64_in _ (by omega)]; omega
    have HKJ := zgn hj; clear hj t2' t3'
    cases hw : x.N[k].wf
    ·have HF : Hid (x.sumB = false) := zgn (Atm.sumB_no hlt (Atm.num_wf hlt hlt' hw))
     have q0 := cell_regrown C5; have q1 := cell_regrown d0; have q2 := cell_regrown d1; have q3 := cell_regrown d2; have q4 := cell_regrown d3; refine wp_region_quiet_below (by kernel_rfl) (by kernel_rfl) ?_
     repeat (first | go_big_quiet_skip | quiet_step (first | (go_at_call 138; with_reducible refine zgr (zV x.N[k] _ _ HSG (TKw.below (below_regrown _ _ _))))))
     refine wpQuiet_nil ?_; intro w9 hw9; obtain ⟨⟨dq, osq⟩, hw9⟩ := hw9; have hb9 : Below wr.heap.size wr w9 := hw9 ▸ below_regrown wr dq osq; clear hw9 q0 q1 q2 q3 q4; go_wp2_with fail; go_ret; exact ⟨retB HF.out.symm, hB.trans (hb9.mono hB.size)⟩
    have HW := zgn hw
    cases hn : (x.T[k] == 0)
    rotate_left
    ·have HF : Hid (x.sumB = false) := zgn (Atm.sumB_no hlt (Atm.num_nil hlt hlt' hn))
     have q0 := cell_regrown C5; have q1 := cell_regrown d0; have q2 := cell_regrown d1; have q3 := cell_regrown d2; have q4 := cell_regrown d3; refine wp_region_quiet_below (by kernel_rfl) (by kernel_rfl) ?_
     repeat (first | go_big_quiet_skip | quiet_step (first | (go_at_call 138; with_reducible refine zgr (zV x.N[k] _ _ HSG (TKw.below (below_regrown _ _ _))))))
     refine wpQuiet_nil ?_; intro w9 hw9; obtain ⟨⟨dq, osq⟩, hw9⟩ := hw9; have hb9 : Below wr.heap.size wr w9 := hw9 ▸ below_regrown wr dq osq; clear hw9 q0 q1 q2 q3 q4; go_wp2_with fail; go_ret; exact ⟨retB HF.out.symm, hB.trans (hb9.mono hB.size)⟩
    by_cases hi1 : -50 ≤ x.T[k]
    rotate_left
    ·have ti : decide (x.T[k] < (-50 : Int)) = true := by simp; omega
     have HF : Hid (x.sumB = false) := zgn (Atm.sumB_no hlt (Atm.num_in hlt hlt' (by rw [decide_eq_false hi1]; rfl))); have q0 := cell_regrown C5; have q1 := cell_regrown d0; have q2 := cell_regrown d1; have q3 := cell_regrown d2; have q4 := cell_regrown d3; refine wp_region_quiet_below (by kernel_rfl) (by kernel_rfl) ?_
     repeat (first | go_big_quiet_skip | quiet_step (first | (go_at_call 138; with_reducible refine zgr (zV x.N[k] _ _ HSG (TKw.below (below_regrown _ _ _))))))
     refine wpQuiet_nil ?_; intro w9 hw9; obtain ⟨⟨dq, osq⟩, hw9⟩ := hw9; have hb9 : Below wr.heap.size wr w9 := hw9 ▸ below_regrown wr dq osq; clear hw9 q0 q1 q2 q3 q4; go_wp2_with fail; go_ret; exact ⟨retB HF.out.symm, hB.trans (hb9.mono hB.size)⟩
    have ti : decide (x.T[k] < (-50 : Int)) = false := by simp; omega
    by_cases hi2 : x.T[k] ≤ 50
    rotate_left
    ·have ti2 : decide ((50 : Int) < x.T[k]) = true := by simp; omega
     have HF : Hid (x.sumB = false) := zgn (Atm.sumB_no hlt (Atm.num_in hlt hlt' (by rw [decide_eq_false hi2]; simp))); have q0 := cell_regrown C5; have q1 := cell_regrown d0; have q2 := cell_regrown d1; have q3 := cell_regrown d2; have q4 := cell_regrown d3; refine wp_region_quiet_below (by kernel_rfl) (by kernel_rfl) ?_
     repeat (first | go_big_quiet_skip | quiet_step (first | (go_at_call 138; with_reducible refine zgr (zV x.N[k] _ _ HSG (TKw.below (below_regrown _ _ _))))))
     refine wpQuiet_nil ?_; intro w9 hw9; obtain ⟨⟨dq, osq⟩, hw9⟩ := hw9; have hb9 : Below wr.heap.size wr w9 := hw9 ▸ below_regrown wr dq osq; clear hw9 q0 q1 q2 q3 q4; go_wp2_with fail; go_ret; exact ⟨retB HF.out.symm, hB.trans (hb9.mono hB.size)⟩
    have ti2 : decide ((50 : Int) < x.T[k]) = false := by simp; omega
    have HI : Hid ((decide ((-50 : Int) ≤ x.T[k]) && decide (x.T[k] ≤ 50)) = true) := zgn (by rw [decide_eq_true hi1, decide_eq_true hi2]; rfl); have HNE := zgn (Atm.num_next HKJ.out hlj hlt hlt' HW.out HI.out hn); have hge := zdD 9 x.N[j].text x.N[k].text
    cases hl : nmLt x.N[j].text x.N[k].text
    ·have HF : Hid (x.sumB = false) := zgn (Atm.sumB_no hlt (by rw [HNE.out, hl]))
     rw [hl] at hge; simp only [Bool.not_false] at hge; clear hl; have q0 := cell_regrown C5; have q1 := cell_regrown d0; have q2 := cell_regrown d1; have q3 := cell_regrown d2; have q4 := cell_regrown d3; refine wp_region_quiet_below (by kernel_rfl) (by kernel_rfl) ?_
     repeat (first | go_big_quiet_skip | quiet_step (first | (go_at_call 138; with_reducible refine zgr (zV x.N[k] _ _ HSG (TKw.below (below_regrown _ _ _)))) | (go_at_call 148; with_reducible refine zgr (zaI _ x.N[j] 4 _ _ (zgo _) HSZ HSJ (TJw.below (below_regrown _ _ _)))) | (go_at_call 148; with_reducible refine zgr (zaI _ x.N[k] 4 _ _ (zgo _) HSK (Tm.wf_shape HW.out) (TKw.below (below_regrown _ _ _))))))
     refine wpQuiet_nil ?_; intro w9 hw9; obtain ⟨⟨dq, osq⟩, hw9⟩ := hw9; have hb9 : Below wr.heap.size wr w9 := hw9 ▸ below_regrown wr dq osq; clear hw9 q0 q1 q2 q3 q4; go_wp2_with fail; go_ret; exact ⟨retB HF.out.symm, hB.trans (hb9.mono hB.size)⟩
    ·have HS := zgn (Atm.upto_succ hall.out (by rw [HNE.out, hl]))
     rw [hl] at hge; simp only [Bool.not_true] at hge; clear hl; have q0 := cell_regrown C5; have q1 := cell_regrown d0; have q2 := cell_regrown d1; have q3 := cell_regrown d2; have q4 := cell_regrown d3; refine wp_region_quiet_below (by kernel_rfl) (by kernel_rfl) ?_
     repeat (first | go_big_quiet_skip | quiet_step (first | (go_at_call 138; with_reducible refine zgr (zV x.N[k] _ _ HSG (TKw.below (below_regrown _ _ _)))) | (go_at_call 148; with_reducible refine zgr (zaI _ x.N[j] 4 _ _ (zgo _) HSZ HSJ (TJw.below (below_regrown _ _ _)))) | (go_at_call 148; with_reducible refine zgr (zaI _ x.N[k] 4 _ _ (zgo _) HSK (Tm.wf_shape HW.out) (TKw.below (below_regrown _ _ _))))))
     refine wpQuiet_nil ?_; intro w9 hw9; obtain ⟨⟨dq, osq⟩, hw9⟩ := hw9; have hb9 : Below wr.heap.size wr w9 := hw9 ▸ below_regrown wr dq osq; clear hw9 q0 q1 q2 q3 q4; go_wp2_with fail; go_roundw
     case rel => exact ⟨k + 1, by omega, by go_num, HS, zh hx hz0 hb9, zgy hz hb9.size, hB.trans (hb9.mono hB.size)⟩
     case measure => simp [intOf]; omega
  ·have HF : Hid (x.sumB = true) := zgn (Atm.sumB_all HD.out (by omega) hall.out)
   go_wp2_with fail; go_ret; exact ⟨retB HF.out.symm, hB⟩
theorem zbz (x : Atm) (vs : List Value) (f : List Nat) (w : World) (hbig : x.small) (hv : RdVs w x.cd vs f) :
  Calls Tryz.prog 119 #[.agg vs.toArray] w fun e w' => e = .returned (.bool x.okB) ∧ Below w.heap.size w w' := by
 obtain ⟨a2, c2, f2, a4, c4, f4, a5, c5, f5, a6, c6, f6, rfl, _, m0, m1, m2, m3, m4, m5, m6, m7⟩ := Atm.open hv
 by_cases k2 : x.kind = 2
 ·skip
  have tk : (x.kind == 2) = true := by simp [k2]
  have KE := zgn (Atm.okB_sum k2); clear k2; go_enter Tryz.func119, Tryz.ntmps119; go_wp2_with fail; refine (l6Sum_any x _ _ _ hbig (by exact hv.below (zb _ _))).mono ?_; rintro e w1 ⟨rfl, hb⟩; go_wp2_with fail; go_ret; exact ⟨retB KE.out.symm, (zb _ _).trans (hb.mono (by simp))⟩
 have tk : (x.kind == 2) = false := by simp [k2]
 by_cases k1 : x.kind = 1
 rotate_left
 ·skip
  have tk2 : (x.kind == 1) = false := by simp [k1]
  have HF := zgn (Atm.okB_no k1 k2); clear k1 k2; go_enter Tryz.func119, Tryz.ntmps119; go_wp2_with fail; go_ret; exact ⟨retB HF.out.symm, zb _ _⟩
 have tk2 : (x.kind == 1) = true := by simp [k1]
 have KE := zgn (Atm.okB_eq k1); clear k1 k2; go_enter Tryz.func119, Tryz.ntmps119; go_wp2_with fail; refine (zV x.a _ _ (by have := hbig; unfold Atm.small at this; omega) (by exact (TmR.mk m1 ⟨f2, m2⟩).below (zb _ _))).mono ?_; rintro e wi0 ⟨rfl, hb⟩; obtain ⟨hx, hz, hB⟩ := box1 (w := w) (wr := wi0) (cs := (yNa x a2 c2 a4 c4 a5 c5 a6 c6)) (T := 31) (zm hb (by simp)); clear hb; obtain ⟨C0, C1, C2, C3, C4, C5, C6, C7, C8⟩ := yQ9 hx; simp only [zgd, zgb, zgc] at C0 C1 C2 C3 C4 C5 C6 C7 C8
 cases h0 : x.a.wf
 ·have HF : Hid (x.okB = false) := zgn (by rw [KE.out, Atm.eqB, h0]; simp)
  clear h0; go_wp2_with fail; go_ret; exact ⟨retB HF.out.symm, hB⟩
 have H0 := zgn h0; clear h0; go_wp2_with fail; refine (zV x.b _ _ (by have := hbig; unfold Atm.small at this; omega) (by exact (TmR.mk m3 ⟨f4, m4⟩).below hB)).mono ?_; rintro e wi1 ⟨rfl, hb⟩; replace hB := hB.trans (hb.mono (by omega)); replace hx := zh hx (by omega) hb; replace hz := zgy hz hb.size; replace C0 := za C0 hb; replace C1 := za C1 hb; replace C2 := za C2 hb; replace C3 := za C3 hb; replace C4 := za C4 hb; replace C5 := za C5 hb; replace C6 := za C6 hb; replace C7 := za C7 hb; replace C8 := za C8 hb; clear hb
 cases h1 : x.b.wf
 ·have HF : Hid (x.okB = false) := zgn (by rw [KE.out, Atm.eqB, h1, H0.out]; simp)
  clear h1; go_wp2_with fail; go_ret; exact ⟨retB HF.out.symm, hB⟩
 have H1 := zgn h1; clear h1
 cases h2 : ((x.N.length : Int) == 0)
 ·have HF : Hid (x.okB = false) := zgn (by rw [KE.out, Atm.eqB, h2, H0.out, H1.out]; simp)
  go_wp2_with fail; go_ret; exact ⟨retB HF.out.symm, hB⟩
 have H2 := zgn h2
 cases h3 : ((x.T.length : Int) == 0)
 ·have HF : Hid (x.okB = false) := zgn (by rw [KE.out, Atm.eqB, h3, H0.out, H1.out, H2.out]; simp)
  go_wp2_with fail; go_ret; exact ⟨retB HF.out.symm, hB⟩
 have H3 := zgn h3
 cases h4 : (x.O == 0)
 ·have HF : Hid (x.okB = false) := zgn (by rw [KE.out, Atm.eqB, h4, H0.out, H1.out, H2.out, H3.out]; simp)
  go_wp2_with fail; go_ret; exact ⟨retB HF.out.symm, hB⟩
 have H4 := zgn h4; have HF : Hid (x.okB = !x.C) := zgn (by rw [KE.out, Atm.eqB, H0.out, H1.out, H2.out, H3.out, H4.out]; simp); go_wp2_with fail; go_ret; exact ⟨retB HF.out.symm, hB⟩
theorem zfr (ts : List Tm) (v : Value) (w : World) (hbig : Tm.sizes ts ≤ 1000000000) (hv : TmsR w ts v) : Calls Tryz.prog 117 #[v] w (zda (.sl (ts.map Tm.cd)) w) :=
 zca (Tm.sizes ts) (fun t v w h1 h2 h3 => za6 _ t v w h1 h2 h3) ts v w (fun t ht => Tm.size_mem ht) hbig hv
theorem rd_row {w : World} {b n c k : Nat} {es : List (List CD)} {vs : List Value} {f : List Nat} (hc : ∀ j u, vs[j]? = some u → w.cell? ⟨b, j, none⟩ = some u) (h : RdVs w es.flatten vs f) (hne : es ≠ []) (hn : n = es.length) (hcap : es.length ≤ c) (hm : c ≤ 9223372036854775807) (hk : ∀ e ∈ es, e.length = k) (hb : b < w.heap.size) :
  Rd w (.sl es) (.slice (some ⟨b, 0, none⟩) n c) (b :: f) := by
 simp only [Rd]; exact ⟨_, c, by rw [hn], hcap, by simpa [maxLen] using hm, .inr ⟨hne, b, 0, f, rfl, hb, rfl, RdRows.mk (k := k) (fun j u hu => by rw [Nat.zero_add]; exact hc j u hu) h⟩⟩
theorem Atm.small_of {x : Atm} (h : wtV x.cd ≤ 1048576) : x.small := by
 have h1 := Tm.size_wtV x.a; have h2 := Tm.size_wtV x.b; have h3 := Tm.sizes_wtR x.N; simp only [Atm.cd, zI, zaS, zav, zaj] at h; unfold Atm.small; omega
theorem Lt.small_of {x : Lt} (h : wtV x.cd ≤ 1048576) : x.M.small := Atm.small_of (by rw [Lt.cd, zI] at h; omega)
theorem Lt.times_ok {x : Lt} (h : wtV x.cd ≤ 1048576) : x.M.T.length ≤ 1048576 := by
 rw [Lt.cd, zI] at h; simp only [Atm.cd, zI, zaS, zav, zaj, zgl] at h; omega
theorem Atm.tms_eq {x : Atm} (h : x.kind = 1) : x.tms = [x.a, x.b] := if_pos h
theorem Atm.tms_sum {x : Atm} (h : ¬ x.kind = 1) : x.tms = x.N := if_neg h
theorem terms_any (x : Atm) (vs : List Value) (f : List Nat) (w : World) (hv : RdVs w x.cd vs f) :
  Calls Tryz.prog 93 #[.agg vs.toArray] w fun e w' => (∃ rv fp, e = .returned rv ∧ Rd w' (.sl (x.tms.map Tm.cd)) rv fp ∧ ∀ b ∈ fp, b ∈ f ∨ w.heap.size ≤ b) ∧ Below w.heap.size w w' := by
 obtain ⟨a2, c2, f2, a4, c4, f4, a5, c5, f5, a6, c6, f6, rfl, hff, m0, m1, m2, m3, m4, m5, m6, m7⟩ := Atm.open hv; have HFF := zgn hff; clear hff
 by_cases k1 : x.kind = 1
 ·have tk : (x.kind == 1) = true := by simp [k1]
  have HT := zgn (Atm.tms_eq k1); clear k1; go_enter Tryz.func93, Tryz.ntmps93; go_wp2_with fail; go_ret; have hb : Below w.heap.size w ((w.alloc (.cells (yNa x a2 c2 a4 c4 a5 c5 a6 c6) 31)).alloc (.cells #[.string x.a.name, .slice a2 x.a.K.length c2, .string x.b.name, .slice a4 x.b.K.length c4] 28)) := (zb _ _).alloc (by simp) _
  refine ⟨⟨_, (w.heap.size + 1) :: (f2 ++ f4), rfl, ?_, fun b hb => by
   rcases zgk.1 hb with rfl | hb
   ·right; omega
   ·left; rw [HFF.out]; rcases zgg.1 hb with h | h <;> simp [h]⟩, hb⟩
  rw [HT.out]; have h2 := ((Tm.rdv m1 m2).app (Tm.rdv m3 m4)).below hb; refine rd_row (k := 2) (vs := [.string x.a.name, .slice a2 x.a.K.length c2, .string x.b.name, .slice a4 x.b.K.length c4]) (f := f2 ++ f4) ?_ (by simpa using h2) (by simp) rfl (by simp) (by omega) (by simp [Tm.cd_len]) (by simp); intro j u hu
  simpa using hu
 ·have tk : (x.kind == 1) = false := by simp [k1]
  have HT := zgn (Atm.tms_sum k1); clear k1; go_enter Tryz.func93, Tryz.ntmps93; go_wp2_with fail; go_ret; exact ⟨⟨_, f5, rfl, by rw [HT.out]; exact m5.below (zb _ _), fun b hb => .inl (by rw [HFF.out]; simp [hb])⟩, zb _ _⟩
theorem zbi (w : World) {α : Type} (cd : α → List CD) : Rd w (.sl (([] : List α).map cd)) (.slice none 0 0) [] := by
 simp only [List.map_nil, Rd]; exact ⟨none, 0, rfl, by simp, by simp [maxLen], by simp⟩
theorem rd_none (w : World) {α : Type} {cd : α → List CD} (b : Nat) {o : Nat} (hb : b < w.heap.size ∨ True) : Rd w (.sl (([] : List α).map cd)) (.slice (some ⟨b, o, none⟩) 0 0) [] := by
 simp only [List.map_nil, Rd]; exact ⟨some ⟨b, o, none⟩, 0, rfl, by simp, by simp [maxLen], by simp⟩
theorem zfs {lo b : Nat} {w : World} {cs : Array Value} {T : Nat} {f : List Nat} (hz : w.heap.size ≤ (w.alloc (.cells cs T)).heap.size) (h : Fresh lo (w.alloc (.cells cs T)) f) (hl : ∀ b ∈ f, b < w.heap.size) (hlo : lo ≤ w.heap.size) (hb : b = w.heap.size) : Fresh lo (w.alloc (.cells cs T)) (b :: f) := by
 subst hb; refine ⟨List.nodup_cons.2 ⟨fun hm => by have := hl _ hm; omega, h.1⟩, ?_⟩; intro b hb
 rcases zgk.1 hb with rfl | hb
 ·exact ⟨hlo, cs, T, by show (w.heap.push _)[w.heap.size]? = _; simp⟩
 ·exact h.2 b hb
theorem Lt.tms_no {x : Lt} (h : x.M.okB = false) : x.tms = [] := by unfold Lt.tms; rw [h]; rfl
theorem Lt.tms_yes {x : Lt} (h : x.M.okB = true) : x.tms = x.M.tms := if_pos h
theorem zdE (x : Lt) (vs : List Value) (f : List Nat) (w : World) (hbig : x.M.small) (hv : RdVs w x.cd vs f) :
  Calls Tryz.prog 141 #[.agg vs.toArray] w (zda (.sl (x.tms.map Tm.cd)) w) := by
 obtain ⟨a2, c2, f2, a4, c4, f4, a5, c5, f5, a6, c6, f6, rfl, _, m0, m1, m2, m3, m4, m5, m6, m7⟩ := Lt.open hv; have hbig2 := hbig; unfold Atm.small at hbig2; have hat := Atm.close m0 m1 m2 m3 m4 m5 m6 m7; go_enter Tryz.func141, Tryz.ntmps141; go_wp2_with fail; refine (zbz x.M _ _ _ hbig (by exact hat.below (zb _ _))).mono ?_; rintro e w1 ⟨rfl, hb⟩; obtain ⟨hx, hz, hB⟩ := box1 (w := w) (wr := w1) (cs := #[.int .i64 x.M.kind, .string x.M.a.name, .slice a2 x.M.a.K.length c2, .string x.M.b.name, .slice a4 x.M.b.K.length c4, .slice a5 x.M.N.length c5, .slice a6 x.M.T.length c6, .int .i64 x.M.O, .bool x.M.C, .bool x.no]) (T := 33) (zm hb (by simp)); clear hb; obtain ⟨C0, C1, C2, C3, C4⟩ := yQ5 hx; simp only [zgd, zgb, zgc] at C0 C1 C2 C3 C4
 cases hk : x.M.okB
 ·have HT := zgn (Lt.tms_no hk)
  clear hk; go_wp2_with fail; go_ret; exact ⟨_, [], rfl, by rw [HT.out]; exact rd_none _ _ (by simp), Fresh.nil _ _, hB.alloc hB.size _⟩
 have HT := zgn (Lt.tms_yes hk); clear hk
 by_cases k1 : x.M.kind = 1
 ·have tk : (x.M.kind == 1) = true := by simp [k1]
  have HT2 := zgn (Atm.tms_eq k1); clear k1; have ta := (TmR.mk m1 ⟨f2, m2⟩).below hB; have tb := (TmR.mk m3 ⟨f4, m4⟩).below hB; go_wp2_with fail
  go_region_held3 (fun W => W.cell? ⟨w.heap.size, 1, none⟩ = some (.string x.M.a.name) ∧ W.cell? ⟨w.heap.size, 2, none⟩ = some (.slice a2 x.M.a.K.length c2) ∧ W.cell? ⟨w.heap.size, 3, none⟩ = some (.string x.M.b.name) ∧ W.cell? ⟨w.heap.size, 4, none⟩ = some (.slice a4 x.M.b.K.length c4))
   (first | exact ⟨C1, C2, C3, C4⟩ | exact ⟨za C1 (zc hb2), za C2 (zc hb2), za C3 (zc hb2), za C4 (zc hb2)⟩ | (refine ⟨?_, ?_, ?_, ?_⟩ <;> (refine za (za ?_ (zc hb2)) hb3; assumption)) | (refine ⟨?_, ?_, ?_, ?_⟩ <;> (refine za (za ?_ (zc hb2)) (hb3.alloc hb3.size _); assumption)))
   (first
    | (go_at_call 85; (with_reducible refine (zF _ x.M.a _ _ (zgo _) (by omega) (by exact ta.below (zj _))).mono ?_); rintro e w2 ⟨ka, fa, rfl, hra, hfa, hb2⟩)
    | (go_at_call 85; (with_reducible refine (zF _ x.M.b _ _ (zgo _) (by omega) (by exact tb.below (zc hb2))).mono ?_); rintro e w3 ⟨kb, fb, rfl, hrb, hfb, hb3⟩))
  have hb2' := zc hb2; have hB2 := hB.trans (hb2'.mono hB.size); have hB3 := hB2.trans (hb3.mono hB2.size); have hz1 := hB.size; have hz2 := hb2'.size; have hz3 := hb3.size; go_wp2_with fail; go_ret; have hB4 := hB3.alloc hB3.size (.cells #[.string x.M.a.name, ka, .string x.M.b.name, kb] 28); have hal := zb w3 (.cells #[.string x.M.a.name, ka, .string x.M.b.name, kb] 28); obtain ⟨aa, ca, rfl, ha1, ha2⟩ := zg hra; obtain ⟨ab, cb, rfl, hb1, hb2''⟩ := zg hrb; have hra3 := hra.below hb3; have h2 := ((Tm.rdv m1 hra3).app (Tm.rdv m3 hrb)).below hal; have hla := hra.lt _; refine ⟨_, w3.heap.size :: (fa ++ fb), rfl, ?_, ?_, hB4⟩
  ·rw [HT.out, HT2.out]
   refine rd_row (k := 2) (vs := [.string x.M.a.name, .slice aa x.M.a.K.length ca, .string x.M.b.name, .slice ab x.M.b.K.length cb]) (f := fa ++ fb) ?_ (by simpa using h2) (by simp) rfl (by simp) (by omega) (by simp [Tm.cd_len]) (by simp); intro j u hu
   simpa using hu
  ·have hfa' : Fresh w.heap.size w3 fa := ((hfa.mono (by simp; omega)).below hb3)
   have hfab : Fresh w.heap.size w3 (fa ++ fb) := Fresh.app hfa' hla hB2.size hfb; exact zfs hal.size (by simpa using hfab.below hal) (by intro b hb; exact (hfab.lt b hb)) hB3.size rfl
 ·have tk : (x.M.kind == 1) = false := by simp [k1]
  have HT2 := zgn (Atm.tms_sum k1); clear k1; go_wp2_with fail
  go_loopw [3, 4] (fun ov i wr => ∃ (k : Nat) (fp : List Nat), k ≤ x.M.N.length ∧ i = .int .i64 k ∧ Own wr (w.heap.size + 1) 28 2 ov ((x.M.N.take k).map Tm.cd) fp ∧ Fresh (w.heap.size + 1) wr fp ∧ wr.cell? ⟨w.heap.size, 5, none⟩ = some (.slice a5 x.M.N.length c5) ∧ w.heap.size + 1 ≤ wr.heap.size ∧ Below w.heap.size w wr) (fun _ i _ => x.M.N.length - (intOf i).toNat)
  case atStart =>
   refine ⟨0, [], zgx _, rfl, by simpa using Own.empty _ _ _ _ hz, Fresh.nil _ _, ?_, by simp; omega, hB.alloc hB.size _⟩; have := hx 5; exact za (by simpa using this) (zb _ _)
  case round =>
   clear hx C0 C1 C2 C3 C4; obtain ⟨k, fp, hkl, rfl, hown, hfr, c5', hz', hb⟩ := hrel; have hz0 := hb.size
   have hz6 : w.heap.size < wr.heap.size := by omega
   by_cases hlt : k < x.M.N.length
   ·obtain ⟨b, off, rfl, hbs, _⟩ := zl m5 (by omega)
    obtain ⟨e1, g1, h1, d0, d1, t0, t1, _⟩ := Tm.at (m5.below hb) hlt
    have hbz : b < wr.heap.size := by omega
    have hks := Tm.size_mem (zgh hlt); go_wp2_with fail; refine (zF _ x.M.N[k] _ _ (zgo _) (by omega) (by exact TmR.mk t0 ⟨h1, t1⟩)).mono ?_; rintro e w2 ⟨kv, fk, rfl, hrk, hfk, hbw⟩; obtain ⟨ka', kc', rfl, hd1, hd2⟩ := zg hrk; have hz2 := hbw.size; have hown2 := (hown.below (hbw.alloc hz2 (.cells #[.string x.M.N[k].name, .slice ka' x.M.N[k].K.length kc'] 28))); have hrk2 := hrk.below (zb w2 (.cells #[.string x.M.N[k].name, .slice ka' x.M.N[k].K.length kc'] 28))
    have hl : ((x.M.N.take k).map Tm.cd).length ≤ x.M.N.length := by simp; omega
    have hlen := zao m5; have hnl := Tm.sizes_len x.M.N; have c5w := za c5' hbw
    have hz7 : w.heap.size < w2.heap.size := by omega
    go_wp2_with (at_builtin; refine zz zaU rfl _ _ rfl (w.heap.size + 1) _ _ _ rfl hown2 ⟨w2.heap.size, 0, none⟩ 1 1 [x.M.N[k].cd] [.string x.M.N[k].name, .slice ka' x.M.N[k].K.length kc'] fk rfl rfl ?rd ?k ?cells ?na ?bytes ?len ?base ?next)
    case rd => simpa using Tm.rdv t0 hrk2
    case k => simp [Tm.cd_len]
    case cells => exact zq _ _ _
    case na => exact hown.away (by simp) hfk
    case bytes => omega
    case len => omega
    case base => simp; omega
    case next =>
     intro v' w4 hown4 hg hv' hs4; have hb4 := zo ((hb.trans (hbw.mono hz0)).alloc (by omega) _) hg (by simp; omega) (fun k hk => Nat.le_of_succ_le (hown.block hk).1); have c5n := zr hg (za c5w (zb w2 _)) (hown.row_ne (by omega)); go_wp2_with fail; go_roundw
     case rel =>
      refine ⟨k + 1, fp ++ fk, by omega, by go_num, ?_, ?_, c5n, by have := hg.size; simp at this; omega, hb4⟩
      ·rw [zgf hlt, zgj]; simpa using hown4
      ·exact ((Fresh.app (hfr.below hbw) hfr.lt hz' (hfk.mono (by simp))).below (zb _ _)).same hs4
     case measure => simp [intOf]; omega
   ·have he : x.M.N.take k = x.M.N := zgq (by omega)
    rw [he] at hown; clear he; obtain ⟨oa, on, oc, rfl⟩ := hown.form'; obtain ⟨fp', h1, h2, _⟩ := hown.fresh hfr; go_wp2_with fail; go_ret; exact ⟨_, fp', rfl, by rw [HT.out, HT2.out]; exact h1, h2.mono (by omega), hb⟩
def Tm.isNum (s : Sg) (t : Tm) : Bool := t.tsrt s == some 1
theorem Tm.isNum_none {s : Sg} {t : Tm} (h : t.tsrt s = none) : t.isNum s = false := by unfold Tm.isNum; rw [h]; rfl
theorem Tm.isNum_some {s : Sg} {t : Tm} {n : Int} (h : t.tsrt s = some n) : t.isNum s = (n == 1) := by unfold Tm.isNum; rw [h]; rfl
theorem Tm.rdv_of {w : World} {t : Tm} {v : Value} (h : TmR w t v) : ∃ a c f, v = .agg #[.string t.name, .slice a t.K.length c] ∧ RdVs w t.cd [.string t.name, .slice a t.K.length c] f := by
 obtain ⟨kv, rfl, hs, f, hk⟩ := h; obtain ⟨a, c, rfl, _, _⟩ := zg hk; exact ⟨a, c, f, rfl, Tm.rdv hs hk⟩
theorem zcc (s : Sg) (t : Tm) (vs : List Value) (v : Value) (f : List Nat) (w : World) (hv : RdVs w s.cd vs f) (hx : TmR w t v) :
  Calls Tryz.prog 92 #[.agg vs.toArray, v] w fun e w' => e = .returned (.bool (t.isNum s)) ∧ Below w.heap.size w w' := by
 obtain ⟨a0, c0, f0, rfl, _, m0⟩ := Sg.open hv; obtain ⟨a, c, g, rfl, hr⟩ := Tm.rdv_of hx; have hb0 : Below w.heap.size w ((w.alloc (.cells #[.slice a0 s.Y.length c0] 25)).alloc (.cells #[.string t.name, .slice a t.K.length c] 28)) := (zb _ _).alloc (by simp) _; go_enter Tryz.func92, Tryz.ntmps92; go_wp2_with fail; refine (zbh s t _ _ _ _ _ (by exact hv.below hb0) (by exact hr.below hb0)).mono ?_; rintro e w1 ⟨rfl, hb1⟩; have hB := hb0.trans (hb1.mono hb0.size); clear hb1 hb0
 cases ho : t.tsrt s with
 | none =>
  have HF := zgn (Tm.isNum_none ho); clear ho; simp only [Option.getD_none, Option.isSome_none]; go_wp2_with fail; go_ret; exact ⟨retB HF.out.symm, hB⟩
 | some n =>
  have HF := zgn (Tm.isNum_some ho); clear ho; simp only [Option.getD_some, Option.isSome_some]; go_wp2_with fail; go_ret; exact ⟨retB HF.out.symm, hB⟩
/-- The place of the first of which p is so, or -1. -/
def FirstAt (p : Tm → Bool) (l : List Tm) (n : Int) : Prop := (n = -1 ∧ l.all (fun t => !p t) = true) ∨ ∃ (k : Nat) (h : k < l.length), n = k ∧ p l[k] = true ∧ (l.take k).all (fun t => !p t) = true
theorem zd8 {p : Tm → Bool} {l : List Tm} {k : Nat} (hk : k < l.length) (h : (l.take k).all (fun t => !p t) = true) (h' : p l[k] = false) : (l.take (k + 1)).all (fun t => !p t) = true := by
 rw [zgf hk, List.all_append, h]; simp [h']
theorem zeL (s : Sg) (t : Tm) (v : Value) (pb : Nat) (a0 : Option Addr) (c0 : Nat) (f0 : List Nat) (w : World) (hp : w.cell? ⟨pb, 0, none⟩ = some (.slice a0 s.Y.length c0)) (hv : RdVs w s.cd [.slice a0 s.Y.length c0] f0) (hx : TmR w t v) :
  Calls Tryz.prog 91 #[v, .pointer (some ⟨pb, 0, none⟩)] w fun e w' => e = .returned (.bool (!t.isNum s)) ∧ Below w.heap.size w w' := by
 obtain ⟨a, c, g, rfl, hr⟩ := Tm.rdv_of hx; have hpz : pb < w.heap.size := World.block_lt_of_cell? w _ hp; have hp' := za hp (zb w (.cells #[.string t.name, .slice a t.K.length c] 28)); go_enter Tryz.func91, Tryz.ntmps91; go_wp2_with fail; refine (zcc s t _ _ _ _ (by exact hv.below (zb _ _)) (by exact hx.below (zb _ _))).mono ?_; rintro e w1 ⟨rfl, hb1⟩; go_wp2_with fail; go_ret; exact ⟨rfl, (zb _ _).trans (hb1.mono (by simp))⟩
theorem zdH (s : Sg) (l : List Tm) (v : Value) (f : List Nat) (pb : Nat) (a0 : Option Addr) (c0 : Nat) (f0 : List Nat) (w : World) (hp : w.cell? ⟨pb, 0, none⟩ = some (.slice a0 s.Y.length c0)) (hv : RdVs w s.cd [.slice a0 s.Y.length c0] f0) (hx : Rd w (.sl (l.map Tm.cd)) v f) :
  Calls Tryz.prog 133 #[v, .func (.func 91) #[] #[.pointer (some ⟨pb, 0, none⟩)]] w fun e w' => (∃ n, e = .returned (.int .i64 n) ∧ FirstAt (fun t => !t.isNum s) l n) ∧ Below w.heap.size w w' := by
 obtain ⟨a, cap, rfl, hc1, hc2⟩ := zg hx; have hpz : pb < w.heap.size := World.block_lt_of_cell? w _ hp; go_enter Tryz.func133, Tryz.ntmps133; go_wp2_with fail
 go_loopw [5, 8] (fun _ i wr => ∃ k : Nat, k ≤ l.length ∧ i = .int .i64 k ∧ Hid ((l.take k).all (fun t => !!t.isNum s) = true) ∧ Below w.heap.size w wr) (fun _ i _ => l.length - (intOf i).toNat)
 case atStart => exact ⟨0, zgx _, rfl, zgn (by simp), zgz _ _⟩
 case round =>
  obtain ⟨k, hkl, rfl, hall, hb⟩ := hrel; have hz := hb.size
  by_cases hlt : k < l.length
  ·obtain ⟨b, off, rfl, hbs, _⟩ := zl hx (by omega)
   obtain ⟨e1, g1, h1, d0, d1, t0, t1, _⟩ := Tm.at (hx.below hb) hlt
   have hbz : b < wr.heap.size := by omega
   go_wp2_with fail; refine (zeL s l[k] _ pb a0 c0 _ _ (za hp hb) (hv.below hb) (TmR.mk t0 ⟨h1, t1⟩)).mono ?_; rintro e w2 ⟨rfl, hb2⟩
   cases he : l[k].isNum s
   ·have HE : Hid (FirstAt (fun t => !t.isNum s) l (k : Int)) := zgn (.inr ⟨k, hlt, rfl, by simp [he], hall.out⟩)
    simp only [Bool.not_false]; clear he; go_wp2_with fail; go_ret; exact ⟨⟨k, rfl, HE.out⟩, hb.trans (hb2.mono hz)⟩
   ·have HE := zgn (zd8 hlt hall.out (by simp [he]))
    simp only [Bool.not_true]; clear he; go_wp2_with fail; go_roundw
    case rel => exact ⟨k + 1, by omega, by go_num, HE, hb.trans (hb2.mono hz)⟩
    case measure => simp [intOf]; omega
  ·have HE : Hid (FirstAt (fun t => !t.isNum s) l (-1)) := zgn (.inl ⟨rfl, by have := hall.out; rwa [zgq (by omega)] at this⟩)
   go_wp2_with fail; go_ret; exact ⟨⟨-1, rfl, HE.out⟩, hb⟩
theorem zcG (s : Sg) (t : Tm) (v : Value) (pb : Nat) (a0 : Option Addr) (c0 : Nat) (f0 : List Nat) (w : World) (hp : w.cell? ⟨pb, 0, none⟩ = some (.slice a0 s.Y.length c0)) (hv : RdVs w s.cd [.slice a0 s.Y.length c0] f0) (hx : TmR w t v) :
  Calls Tryz.prog 96 #[v, .pointer (some ⟨pb, 0, none⟩)] w fun e w' => e = .returned (.bool (!t.isNum s)) ∧ Below w.heap.size w w' := by
 obtain ⟨a, c, g, rfl, hr⟩ := Tm.rdv_of hx; have hpz : pb < w.heap.size := World.block_lt_of_cell? w _ hp; have hp' := za hp (zb w (.cells #[.string t.name, .slice a t.K.length c] 28)); go_enter Tryz.func96, Tryz.ntmps96; go_wp2_with fail; refine (zcc s t _ _ _ _ (by exact hv.below (zb _ _)) (by exact hx.below (zb _ _))).mono ?_; rintro e w1 ⟨rfl, hb1⟩; go_wp2_with fail; go_ret; exact ⟨rfl, (zb _ _).trans (hb1.mono (by simp))⟩
theorem zdI (s : Sg) (l : List Tm) (v : Value) (f : List Nat) (pb : Nat) (a0 : Option Addr) (c0 : Nat) (f0 : List Nat) (w : World) (hp : w.cell? ⟨pb, 0, none⟩ = some (.slice a0 s.Y.length c0)) (hv : RdVs w s.cd [.slice a0 s.Y.length c0] f0) (hx : Rd w (.sl (l.map Tm.cd)) v f) :
  Calls Tryz.prog 133 #[v, .func (.func 96) #[] #[.pointer (some ⟨pb, 0, none⟩)]] w fun e w' => (∃ n, e = .returned (.int .i64 n) ∧ FirstAt (fun t => !t.isNum s) l n) ∧ Below w.heap.size w w' := by
 obtain ⟨a, cap, rfl, hc1, hc2⟩ := zg hx; have hpz : pb < w.heap.size := World.block_lt_of_cell? w _ hp; go_enter Tryz.func133, Tryz.ntmps133; go_wp2_with fail
 go_loopw [5, 8] (fun _ i wr => ∃ k : Nat, k ≤ l.length ∧ i = .int .i64 k ∧ Hid ((l.take k).all (fun t => !!t.isNum s) = true) ∧ Below w.heap.size w wr) (fun _ i _ => l.length - (intOf i).toNat)
 case atStart => exact ⟨0, zgx _, rfl, zgn (by simp), zgz _ _⟩
 case round =>
  obtain ⟨k, hkl, rfl, hall, hb⟩ := hrel; have hz := hb.size
  by_cases hlt : k < l.length
  ·obtain ⟨b, off, rfl, hbs, _⟩ := zl hx (by omega)
   obtain ⟨e1, g1, h1, d0, d1, t0, t1, _⟩ := Tm.at (hx.below hb) hlt
   have hbz : b < wr.heap.size := by omega
   go_wp2_with fail; refine (zcG s l[k] _ pb a0 c0 _ _ (za hp hb) (hv.below hb) (TmR.mk t0 ⟨h1, t1⟩)).mono ?_; rintro e w2 ⟨rfl, hb2⟩
   cases he : l[k].isNum s
   ·have HE : Hid (FirstAt (fun t => !t.isNum s) l (k : Int)) := zgn (.inr ⟨k, hlt, rfl, by simp [he], hall.out⟩)
    simp only [Bool.not_false]; clear he; go_wp2_with fail; go_ret; exact ⟨⟨k, rfl, HE.out⟩, hb.trans (hb2.mono hz)⟩
   ·have HE := zgn (zd8 hlt hall.out (by simp [he]))
    simp only [Bool.not_true]; clear he; go_wp2_with fail; go_roundw
    case rel => exact ⟨k + 1, by omega, by go_num, HE, hb.trans (hb2.mono hz)⟩
    case measure => simp [intOf]; omega
  ·have HE : Hid (FirstAt (fun t => !t.isNum s) l (-1)) := zgn (.inl ⟨rfl, by have := hall.out; rwa [zgq (by omega)] at this⟩)
   go_wp2_with fail; go_ret; exact ⟨⟨-1, rfl, HE.out⟩, hb⟩
theorem FirstAt.neg {p : Tm → Bool} {l : List Tm} {n : Int} (h : FirstAt p l n) : (decide (0 ≤ n)) = !l.all (fun t => !p t) := by
 rcases h with ⟨rfl, h⟩ | ⟨k, hk, rfl, h, _⟩
 ·rw [h]; rfl
 ·have : l.all (fun t => !p t) = false := by rw [List.all_eq_false]; exact ⟨l[k], zgh hk, by simp [h]⟩
  rw [this]; simp
theorem zdJ (s : Sg) (l : List Tm) (v : Value) (f : List Nat) (pb : Nat) (a0 : Option Addr) (c0 : Nat) (f0 : List Nat) (w : World) (hp : w.cell? ⟨pb, 0, none⟩ = some (.slice a0 s.Y.length c0)) (hv : RdVs w s.cd [.slice a0 s.Y.length c0] f0) (hx : Rd w (.sl (l.map Tm.cd)) v f) :
  Calls Tryz.prog 90 #[v, .func (.func 91) #[] #[.pointer (some ⟨pb, 0, none⟩)]] w fun e w' => e = .returned (.bool (!l.all (Tm.isNum s))) ∧ Below w.heap.size w w' := by
 obtain ⟨a, cap, rfl, hc1, hc2⟩ := zg hx; go_enter Tryz.func90, Tryz.ntmps90; go_wp2_with fail; refine (zdH s l _ f pb a0 c0 f0 _ hp hv hx).mono ?_; rintro e w2 ⟨⟨n, rfl, hn⟩, hb⟩; have HF := zgn hn.neg; clear hn; go_wp2_with fail; go_ret; exact ⟨retB (by rw [HF.out]; simp), hb⟩
def zas (s : Sg) (x : Atm) : Bool := s.okB && (x.okB && (if x.kind = 1 then Eqn.okB s ⟨x.a, x.b⟩ else x.N.all (Tm.isNum s)))
theorem zd9 {s : Sg} {x : Atm} (h : s.okB = false) : zas s x = false := by simp [zas, h]
theorem zdK {s : Sg} {x : Atm} (h : x.okB = false) : zas s x = false := by simp [zas, h]
theorem ze5 {s : Sg} {x : Atm} (h : s.okB = true) (h' : x.okB = true) (k : x.kind = 1) : zas s x = Eqn.okB s ⟨x.a, x.b⟩ := by simp [zas, h, h', k]
theorem zea {s : Sg} {x : Atm} (h : s.okB = true) (h' : x.okB = true) (k : ¬ x.kind = 1) : zas s x = x.N.all (Tm.isNum s) := by simp [zas, h, h', k]
theorem zeM (s : Sg) (x : Atm) (us vs : List Value) (f f' : List Nat) (w : World) (hbig : x.small) (hv : RdVs w s.cd us f') (hx : RdVs w x.cd vs f) :
  Calls Tryz.prog 50 #[.agg us.toArray, .agg vs.toArray] w fun e w' => e = .returned (.bool (zas s x)) ∧ Below w.heap.size w w' := by
 obtain ⟨a0, c0, f0, rfl, _, n0⟩ := Sg.open hv; obtain ⟨a2, c2, f2, a4, c4, f4, a5, c5, f5, a6, c6, f6, rfl, _, m0, m1, m2, m3, m4, m5, m6, m7⟩ := Atm.open hx; go_enter Tryz.func50, Tryz.ntmps50; go_wp2_with fail; refine (zbJ s _ _ _ (by exact hv.below ((zb _ _).alloc (by simp) _))).mono ?_; rintro e w1 ⟨rfl, hb⟩; obtain ⟨hs, hy, hz, hB⟩ := box2 (w := w) (wr := w1) (cs := #[.slice a0 s.Y.length c0]) (ds := (yNa x a2 c2 a4 c4 a5 c5 a6 c6)) (T := 25) (U := 31) (zm hb (by simp)); clear hb; have S0 := hs 0; obtain ⟨C0, C1, C2, C3, C4, C5, C6, C7, C8⟩ := yQ9 hy; simp only [zgd, zgb, zgc] at S0 C0 C1 C2 C3 C4 C5 C6 C7 C8
 cases h1 : s.okB
 ·have HF := zgn (zd9 (x := x) h1)
  clear h1; go_wp2_with fail; go_ret; exact ⟨retB HF.out.symm, hB⟩
 have H1 := zgn h1; clear h1; go_wp2_with fail; refine (zdn x _ _ _ hbig (by exact hx.below hB)).mono ?_; rintro e w2 ⟨rfl, hb2⟩; have hB2 := hB.trans (hb2.mono hB.size)
 cases h2 : x.okB
 ·have HF := zgn (zdK (s := s) h2)
  clear h2; go_wp2_with fail; go_ret; exact ⟨retB HF.out.symm, hB2⟩
 have H2 := zgn h2; clear h2; have S0' := za S0 hb2; have C0' := za C0 hb2; have C1' := za C1 hb2; have C2' := za C2 hb2; have C3' := za C3 hb2; have C4' := za C4 hb2; have C5' := za C5 hb2; have C6' := za C6 hb2; have C7' := za C7 hb2; have C8' := za C8 hb2; clear S0 C0 C1 C2 C3 C4 C5 C6 C7 C8 hs hy
 by_cases k1 : x.kind = 1
 ·have tk : (x.kind == 1) = true := by simp [k1]
  have HF := zgn (ze5 H1.out H2.out k1); clear k1; go_wp2_with fail; refine (zfn s ⟨x.a, x.b⟩ _ _ _ _ _ (by exact (Eqn.close (x := ⟨x.a, x.b⟩) m1 m2 m3 m4).below hB2) (by exact hv.below hB2)).mono ?_; rintro e w3 ⟨rfl, hb3⟩; go_wp2_with fail; go_ret; exact ⟨retB HF.out.symm, hB2.trans (hb3.mono hB2.size)⟩
 ·have tk : (x.kind == 1) = false := by simp [k1]
  have HF := zgn (zea H1.out H2.out k1); clear k1; go_wp2_with fail; refine (zdJ s x.N _ _ w.heap.size a0 c0 _ _ S0' (hv.below hB2) (m5.below hB2)).mono ?_; rintro e w3 ⟨rfl, hb3⟩; go_wp2_with fail; go_ret
  exact ⟨retB (by rw [HF.out]; try simp), hB2.trans (hb3.mono hB2.size)⟩
theorem Tm.tsrt_of {s : Sg} (h : s.okB = true) {t : Tm} (h' : t.wf = true) : t.tsrt s = t.srt s := Tm.tsrt_yes h h'
theorem zeN (s : Sg) (x : Atm) (us vs : List Value) (f f' : List Nat) (w : World) (hbig : x.small) (hv : RdVs w s.cd us f') (hx : RdVs w x.cd vs f) :
  Calls Tryz.prog 122 #[.agg us.toArray, .agg vs.toArray] w fun e w' => e = .returned (.bool (zas s x)) ∧ Below w.heap.size w w' := by
 obtain ⟨a0, c0, f0, rfl, _, n0⟩ := Sg.open hv; obtain ⟨a2, c2, f2, a4, c4, f4, a5, c5, f5, a6, c6, f6, rfl, _, m0, m1, m2, m3, m4, m5, m6, m7⟩ := Atm.open hx; go_enter Tryz.func122, Tryz.ntmps122; go_wp2_with fail; refine (zbl s _ _ _ (by exact hv.below ((zb _ _).alloc (by simp) _))).mono ?_; rintro e w1 ⟨rfl, hb⟩; obtain ⟨hs, hy, hz, hB⟩ := box2 (w := w) (wr := w1) (cs := #[.slice a0 s.Y.length c0]) (ds := (yNa x a2 c2 a4 c4 a5 c5 a6 c6)) (T := 25) (U := 31) (zm hb (by simp)); clear hb; have S0 := hs 0; obtain ⟨C0, C1, C2, C3, C4, C5, C6, C7, C8⟩ := yQ9 hy; simp only [zgd, zgb, zgc] at S0 C0 C1 C2 C3 C4 C5 C6 C7 C8
 cases h1 : s.okB
 ·have HF := zgn (zd9 (x := x) h1)
  clear h1; go_wp2_with fail; go_ret; exact ⟨retB HF.out.symm, hB⟩
 have H1 := zgn h1; clear h1; go_wp2_with fail; refine (zbz x _ _ _ hbig (by exact hx.below hB)).mono ?_; rintro e w2 ⟨rfl, hb2⟩; have hB2 := hB.trans (hb2.mono hB.size)
 cases h2 : x.okB
 ·have HF := zgn (zdK (s := s) h2)
  clear h2; go_wp2_with fail; go_ret; exact ⟨retB HF.out.symm, hB2⟩
 have H2 := zgn h2; clear h2; have HWF := zgn (fun t ht => Tm.tsrt_of H1.out (Atm.tms_wf H2.out t ht)); have HPOS := zgn (fun (t : Tm) (m : Int) (hm : t.srt s = some m) => Tm.srt_pos H1.out hm); have S0' := za S0 hb2; have C0' := za C0 hb2; have C1' := za C1 hb2; have C2' := za C2 hb2; have C3' := za C3 hb2; have C4' := za C4 hb2; have C5' := za C5 hb2; have C6' := za C6 hb2; have C7' := za C7 hb2; have C8' := za C8 hb2; clear S0 C0 C1 C2 C3 C4 C5 C6 C7 C8 hs hy
 by_cases k1 : x.kind = 1
 ·have tk : (x.kind == 1) = true := by simp [k1]
  have HF := zgn (ze5 H1.out H2.out k1); have HA : Hid (x.a.tsrt s = x.a.srt s) := zgn (HWF.out x.a (by rw [Atm.tms_eq k1]; simp)); have HBB : Hid (x.b.tsrt s = x.b.srt s) := zgn (HWF.out x.b (by rw [Atm.tms_eq k1]; simp)); clear k1; go_wp2_with fail; refine (zbK s H1 x.a.size x.a _ _ _ _ _ (zgo _) (by exact hv.below hB2) (by exact (Tm.rdv m1 m2).below hB2)).mono ?_; rintro e w3 ⟨rfl, hb3⟩; have hB3 := hB2.trans (hb3.mono hB2.size); have S3 := za S0' hb3; have E3 := za C3' hb3; have E4 := za C4' hb3
  cases ho : x.a.srt s with
  | none =>
   have HG : Hid (zas s x = false) := zgn (by rw [HF.out]; exact Eqn.okB_a (HA.out.trans ho)); clear ho; simp only [Option.getD_none]; go_wp2_with fail; go_ret; exact ⟨retB HG.out.symm, hB3⟩
  | some m =>
   have hm0 := HPOS.out _ _ ho; have HO := zgn (HA.out.trans ho)
   have tm : decide ((0 : Int) ≤ m) = true := by simp; try omega
   clear ho; simp only [Option.getD_some]; go_wp2_with fail; refine (zbK s H1 x.b.size x.b _ _ _ _ _ (zgo _) (by exact hv.below hB3) (by exact (Tm.rdv m3 m4).below hB3)).mono ?_; rintro e w4 ⟨rfl, hb4⟩; have hB4 := hB3.trans (hb4.mono hB3.size)
   cases hq : x.b.srt s with
   | none =>
    have HG : Hid (zas s x = false) := zgn (by rw [HF.out]; exact Eqn.okB_b (HBB.out.trans hq))
    have tq : (m == -1) = false := by simp; omega
    clear hq; simp only [Option.getD_none]; go_wp2_with fail; go_ret
    exact ⟨retB (by rw [HG.out]; try exact tq), hB4⟩
   | some n =>
    have HG := zgn (HF.out.trans (Eqn.okB_ab (e := ⟨x.a, x.b⟩) HO.out (HBB.out.trans hq))); clear hq; simp only [Option.getD_some]; go_wp2_with fail; go_ret; exact ⟨retB HG.out.symm, hB4⟩
 ·have tk : (x.kind == 1) = false := by simp [k1]
  have HF := zgn (zea H1.out H2.out k1); have HN := zgn (fun t (ht : t ∈ x.N) => HWF.out t (by rw [Atm.tms_sum k1]; exact ht)); clear k1; have hlen := zao m5; go_wp2_with fail
  go_loopw [6] (fun i wq => ∃ k : Nat, k ≤ x.N.length ∧ i = .int .i64 k ∧ Hid ((x.N.take k).all (Tm.isNum s) = true) ∧ Below w2.heap.size w2 wq) (fun i _ => x.N.length - (intOf i).toNat)
  case atStart => exact ⟨0, zgx _, rfl, zgn (by simp), zgz _ _⟩
  case round =>
   obtain ⟨k, hkl, rfl, hall, hb⟩ := hrel; have hBr := hB2.trans (hb.mono hB2.size); have S4 := za S0' hb; have D5r := za C5' hb
   by_cases hlt : k < x.N.length
   ·obtain ⟨b, off, rfl, hbs, _⟩ := zl m5 (by omega)
    obtain ⟨e1, g1, h1, d0, d1, t0, t1, _⟩ := Tm.at (m5.below hBr) hlt
    have hbz : b < wr.heap.size := by have := hBr.size; omega
    have hvr := hv.below hBr; have htr := Tm.rdv t0 t1; have HT := zgn (HN.out _ (zgh hlt)); go_wp2_with fail; have q0 := cell_regrown S4; have q1 := cell_regrown D5r; have q2 := cell_regrown d0; have q3 := cell_regrown d1
    cases hq : x.N[k].srt s with
    | none =>
     have HG : Hid (zas s x = false) := zgn (by rw [HF.out, List.all_eq_false]; exact ⟨x.N[k], zgh hlt, by rw [Tm.isNum_none (HT.out.trans hq)]; simp⟩); have HL := zgn (fun W (hW : Below wr.heap.size wr W) => (zbK s H1 x.N[k].size x.N[k] _ _ _ _ W (zgo _) (hvr.below hW) (htr.below hW))); rw [hq] at HL; have tq : ((-1 : Int) != 1) = true := rfl; clear hq; refine wp_region_quiet_below (by kernel_rfl) (by kernel_rfl) ?_
     repeat (first | go_big_quiet_skip | quiet_step ((go_at_call 140; refine zgr ((HL.out _ (below_regrown _ _ _)).mono (fun e w' h => h)))))
     refine wpQuiet_nil ?_; intro w9 hw9; obtain ⟨⟨dq, osq⟩, hw9⟩ := hw9; have hb9 : Below wr.heap.size wr w9 := hw9 ▸ below_regrown wr dq osq; clear hw9 q0 q1 q2 q3; go_wp2_with fail; go_ret; exact ⟨retB HG.out.symm, hBr.trans (hb9.mono hBr.size)⟩
    | some n =>
     have HNN := zgn (Tm.isNum_some (HT.out.trans hq)); have HL := zgn (fun W (hW : Below wr.heap.size wr W) => (zbK s H1 x.N[k].size x.N[k] _ _ _ _ W (zgo _) (hvr.below hW) (htr.below hW))); rw [hq] at HL; clear hq
     cases hn : (n == 1)
     ·have HG : Hid (zas s x = false) := zgn (by rw [HF.out, List.all_eq_false]; exact ⟨x.N[k], zgh hlt, by rw [HNN.out, hn]; simp⟩)
      have tq : (n != 1) = true := by rw [bne, hn]; rfl
      refine wp_region_quiet_below (by kernel_rfl) (by kernel_rfl) ?_
      repeat (first | go_big_quiet_skip | quiet_step ((go_at_call 140; refine zgr ((HL.out _ (below_regrown _ _ _)).mono (fun e w' h => h)))))
      refine wpQuiet_nil ?_; intro w9 hw9; obtain ⟨⟨dq, osq⟩, hw9⟩ := hw9; have hb9 : Below wr.heap.size wr w9 := hw9 ▸ below_regrown wr dq osq; clear hw9 q0 q1 q2 q3; go_wp2_with fail; go_ret; exact ⟨retB HG.out.symm, hBr.trans (hb9.mono hBr.size)⟩
     ·have HS : Hid ((x.N.take (k + 1)).all (Tm.isNum s) = true) := zgn (by rw [zgf hlt, List.all_append, hall.out]; simp [HNN.out, hn])
      have tq : (n != 1) = false := by rw [bne, hn]; rfl
      refine wp_region_quiet_below (by kernel_rfl) (by kernel_rfl) ?_
      repeat (first | go_big_quiet_skip | quiet_step ((go_at_call 140; refine zgr ((HL.out _ (below_regrown _ _ _)).mono (fun e w' h => h)))))
      refine wpQuiet_nil ?_; intro w9 hw9; obtain ⟨⟨dq, osq⟩, hw9⟩ := hw9; have hb9 : Below wr.heap.size wr w9 := hw9 ▸ below_regrown wr dq osq; clear hw9 q0 q1 q2 q3; go_wp2_with fail; go_roundw
      case rel => exact ⟨k + 1, by omega, by go_num, HS, hb.trans (hb9.mono hb.size)⟩
      case measure => simp [intOf]; omega
   ·have HG : Hid (zas s x = true) := zgn (by have h := hall.out; rw [zgq (by omega)] at h; rw [HF.out, h])
    go_wp2_with fail; go_ret; exact ⟨retB HG.out.symm, hBr⟩
def zbU (s : Sg) : Stk := if s.okB = true then ⟨s, [[]]⟩ else ⟨⟨[]⟩, []⟩
theorem stkNew_no {s : Sg} (h : s.okB = false) : zbU s = ⟨⟨[]⟩, []⟩ := by unfold zbU; rw [h]; rfl
theorem zfX {s : Sg} (h : s.okB = true) : zbU s = ⟨s, [[]]⟩ := if_pos h
theorem heap_at (w : World) (o : Obj) (b : Nat) (hb : b = w.heap.size) : (w.alloc o).heap[b]? = some o := by
 subst hb
 show (w.heap.push _)[_]? = _
 simp
theorem stk_zero (w : World) : RdVs w (Stk.mk ⟨[]⟩ []).cd [.slice none 0 0, .slice none 0 0] [] := by
 have h1 := RdVs.single (zbi w Sy.cd); have h2 := RdVs.single (zbi w zG); exact h1.app h2
theorem zdU (s : Sg) (vs : List Value) (f : List Nat) (w : World) (hbig : wtV s.cd ≤ 1048576) (hv : RdVs w s.cd vs f) :
  Calls Tryz.prog 106 #[.agg vs.toArray] w (zbg (zbU s).cd w) := by
 obtain ⟨a0, c0, f0, rfl, _, m0⟩ := Sg.open hv; go_enter Tryz.func106, Tryz.ntmps106; go_wp2_with fail; refine (zbl s _ _ _ (by exact hv.below (((zgz _ _).alloc (zgo _) _).alloc (by simp) _))).mono ?_; rintro e w1 ⟨rfl, hb⟩; have hbb := zm (n := w.heap.size + 1 + 1) hb (by simp); obtain ⟨hx, hy, hz, hB⟩ := box2 (w := w) (wr := w1) (cs := #[.slice a0 s.Y.length c0]) (ds := #[.slice none 0 0, .slice none 0 0]) (T := 25) (U := 53) hbb; have hf := fun j => (zJ hbb j).2; clear hb hbb; have x0 := hx 0; have y0 := hy 0; have y1 := hy 1; have f0' := hf 0; have f1' := hf 1; simp only [zgd, zgb, zgc] at x0 y0 y1
 cases hk : s.okB
 ·have HN := zgn (stkNew_no hk)
  clear hk; have hres := zw (b := w.heap.size + 1) [(0, .slice none 0 0), (1, .slice none 0 0)] hy (by simp); have r0 := hres 0; have r1 := hres 1; simp only [zi, zag, zfZ, zga, zgd, zgb, zgc] at r0 r1; clear hx hy hres hf; go_wp2_with fail; refine bodyPost_ret (v := .agg #[.slice none 0 0, .slice none 0 0]) (by simp [results, Tryz.results106, go_sem, r0, r1]) rfl ?_; exact ⟨[.slice none 0 0, .slice none 0 0], [], rfl, by rw [HN.out]; exact stk_zero _, Fresh.nil _ _, (hB.setCell (by simp) _).setCell (by simp) _⟩
 have HN := zgn (zfX hk); clear hk; go_wp2_with fail; refine (zb3 s _ _ _ hbig (by exact hv.below hB)).mono ?_; rintro e w2 ⟨us, fs, rfl, hr, hfr, hb2⟩; obtain ⟨a1, c1, f1, rfl, _, n0⟩ := Sg.open hr; have hz2 := hb2.size; have hB2 := hB.trans (hb2.mono hB.size)
 have hal : Below w2.heap.size w2 ((w2.alloc (.cells #[] 36)).alloc (.cells #[.slice (some ⟨w2.heap.size, 0, none⟩) 0 0] 34)) := (zb _ _).alloc (by simp) _; have hz3 := hal.size; have hBB : Below w.heap.size w ((w2.alloc (.cells #[] 36)).alloc (.cells #[.slice (some ⟨w2.heap.size, 0, none⟩) 0 0] 34)) := hB2.trans (hal.mono hB2.size); have q0 := za y0 (hb2.trans (hal.mono hz2)); have q1 := za y1 (hb2.trans (hal.mono hz2)); have hyy : ∀ j, ((w2.alloc (.cells #[] 36)).alloc (.cells #[.slice (some ⟨w2.heap.size, 0, none⟩) 0 0] 34)).cell? ⟨w.heap.size + 1, j, none⟩ = (#[.slice none 0 0, .slice none 0 0] : Array Value)[j]? := zh hy (by omega) (hb2.trans (hal.mono hz2)); have hff : ∀ j, ((w2.alloc (.cells #[] 36)).alloc (.cells #[.slice (some ⟨w2.heap.size, 0, none⟩) 0 0] 34)).frozen? ⟨w.heap.size + 1, j, none⟩ = false := zK hf (by omega) (hb2.trans (hal.mono hz2)); have g0 := hff 0; have g1 := hff 1; have hres := zw (b := w.heap.size + 1) [(0, .slice a1 s.Y.length c1), (1, .slice (some ⟨w2.heap.size + 1, 0, none⟩) 1 1)] hyy (by simp); have r0 := hres 0; have r1 := hres 1; simp only [zi, zag, zfZ, zga, zgd, zgb, zgc] at r0 r1
 have hrow : RdVs ((w2.alloc (.cells #[] 36)).alloc (.cells #[.slice (some ⟨w2.heap.size, 0, none⟩) 0 0] 34)) [.sl (([[]] : List (List Fm)).map zG)] [.slice (some ⟨w2.heap.size + 1, 0, none⟩) 1 1] [w2.heap.size + 1] := RdVs.single (by
  refine rd_row (k := 1) (vs := [.slice (some ⟨w2.heap.size, 0, none⟩) 0 0]) (f := []) ?_ ?_ (by simp) rfl (by simp) (by omega) (by simp [zG]) (by simp)
  ·intro j u hu
   have := zq (w2.alloc (.cells #[] 36)) [.slice (some ⟨w2.heap.size, 0, none⟩) 0 0] 34 j u hu
   simpa using hu
  ·exact RdVs.single (by simp only [Rd]; exact ⟨some ⟨w2.heap.size, 0, none⟩, 0, rfl, by simp, by simp [maxLen], by simp⟩))
 have hr3 := hr.below hal
 have hfin : RdVs ((w2.alloc (.cells #[] 36)).alloc (.cells #[.slice (some ⟨w2.heap.size, 0, none⟩) 0 0] 34)) (zbU s).cd ([.slice a1 s.Y.length c1] ++ [.slice (some ⟨w2.heap.size + 1, 0, none⟩) 1 1]) (fs ++ [w2.heap.size + 1]) := by rw [HN.out]; exact hr3.app hrow
 have hfs : Fresh w.heap.size ((w2.alloc (.cells #[] 36)).alloc (.cells #[.slice (some ⟨w2.heap.size, 0, none⟩) 0 0] 34)) (fs ++ [w2.heap.size + 1]) := by
  have h1 := (hfr.mono (show w.heap.size ≤ w1.heap.size from hB.size)).below hal; refine Fresh.app h1 (fun b hb => hfr.lt b hb) hB2.size ⟨by simp, ?_⟩; intro b hb; obtain rfl := List.mem_singleton.1 hb; exact ⟨by simp, _, _, heap_at _ _ _ (by simp)⟩
 have hfn : ∀ b ∈ fs ++ [w2.heap.size + 1], b ≠ w.heap.size + 1 := fun b hb => by
  rcases zgg.1 hb with h | h
  ·have := (hfr.2 b h).1; omega
  ·obtain rfl := List.mem_singleton.1 h; omega
 clear hx hy hf hyy hff hres hrow hr3 hr; go_wp2_with fail; refine bodyPost_ret (v := .agg #[.slice a1 s.Y.length c1, .slice (some ⟨w2.heap.size + 1, 0, none⟩) 1 1]) (by simp [results, Tryz.results106, go_sem, r0, r1]) rfl ?_; have hsm := zP (w := (w2.alloc (.cells #[] 36)).alloc (.cells #[.slice (some ⟨w2.heap.size, 0, none⟩) 0 0] 34)) (i := 0) (j := 1) (u := .slice a1 s.Y.length c1) (v := .slice (some ⟨w2.heap.size + 1, 0, none⟩) 1 1) (fp := fs ++ [w2.heap.size + 1]) (b := w.heap.size + 1) hfn; exact ⟨[.slice a1 s.Y.length c1, .slice (some ⟨w2.heap.size + 1, 0, none⟩) 1 1], fs ++ [w2.heap.size + 1], rfl, hfin.same _ hsm, hfs.same hsm, (hBB.setCell (by simp) _).setCell (by simp) _⟩
end Go.Proofs.YtbfinjiledfpcaaGreat
end
