/- Parts of the proof: Sig2 Sig3 Sig4 StackN. -/
import Derived.IntWalk
import Derived.Test.YtbfinjiledfpcaaGreatPT4
import Derived.Test.YtbfinjiledfpcaaGreatPT3
section
namespace Go.Proofs.YtbfinjiledfpcaaGreat
open Go Go.RowKit
set_option linter.unusedVariables false
set_option linter.unusedSimpArgs false
set_option maxRecDepth 100000
set_option maxHeartbeats 16000000
theorem zaq {w : World} {B : Nat} {wr : World} {cs : Array Value} {T : Nat} (hb : Below B w wr) (hz : B ≤ wr.heap.size) : Below B w (wr.alloc (.cells cs T)) := hb.alloc hz _
theorem geq_run (t : TypeId) (a b : ByteArray) : binOp .geq t (.string a) (.string b) = pure (.bool (!nmLt a b)) := by simp [binOp, Op.stringOp, nmLt]
theorem zbJ (x : Sg) (vs : List Value) (f : List Nat) (w : World) (hv : RdVs w x.cd vs f) :
  Calls Tryz.prog 49 #[.agg vs.toArray] w fun e w' => e = .returned (.bool x.okB) ∧ Below w.heap.size w w' := by
 obtain ⟨a0, c0, f0, rfl, _, m0⟩ := Sg.open hv; have hlen := zao m0; go_enter Tryz.func49, Tryz.ntmps49; go_wp2_with fail
 go_loopw [8] (fun i wq => ∃ k : Nat, k ≤ x.Y.length ∧ i = .int .i64 k ∧ Hid (∀ j, j < k → x.okAt j = true) ∧ Below (w.heap.size + 1) (w.alloc (.cells #[.slice a0 x.Y.length c0] 25)) wq) (fun i _ => x.Y.length - (intOf i).toNat)
 case atStart => exact ⟨0, zgx _, rfl, zgn (fun j h => by omega), zgz _ _⟩
 case round =>
  obtain ⟨k, hkl, rfl, hall, hL⟩ := hrel; obtain ⟨hxL, hzL, hBL⟩ := box1 hL; have cx := hxL 0; simp only [zgd, zgb, zgc] at cx
  by_cases hlt : k < x.Y.length
  ·obtain ⟨b, off, rfl, hbs, _⟩ := zl m0 (by omega)
   have hbz2 : b < wr.heap.size := by omega
   have hz0 : w.heap.size < wr.heap.size := by omega
   obtain ⟨ea1, ec1, ef1, d0, d1, d2, em0, em1, em2, _⟩ := Sy.at (m0.below hBL) hlt; have hBX := zaq (cs := #[.string x.Y[k].name, .slice ea1 x.Y[k].args.length ec1, .int .i64 x.Y[k].sort]) (T := 109) hBL (by omega); have hLX := zaq (cs := #[.string x.Y[k].name, .slice ea1 x.Y[k].args.length ec1, .int .i64 x.Y[k].sort]) (T := 109) hL (by omega); have hrd := (Sy.close em0 em1 em2).below (zb wr (.cells #[.string x.Y[k].name, .slice ea1 x.Y[k].args.length ec1, .int .i64 x.Y[k].sort] 109)); go_wp2_with fail; obtain ⟨w2, hw2⟩ : ∃ w2, w2 = wr.alloc (.cells #[.string x.Y[k].name, .slice ea1 x.Y[k].args.length ec1, .int .i64 x.Y[k].sort] 109) := ⟨_, rfl⟩; have hbox := zt wr #[.string x.Y[k].name, .slice ea1 x.Y[k].args.length ec1, .int .i64 x.Y[k].sort] 109
   have hsz : (wr.alloc (.cells #[.string x.Y[k].name, .slice ea1 x.Y[k].args.length ec1, .int .i64 x.Y[k].sort] 109)).heap.size = wr.heap.size + 1 := by simp
   have hbw : Below wr.heap.size wr w2 := hw2 ▸ zb _ _; rw [← hw2] at hBX hLX hrd hbox hsz ⊢; clear hw2; obtain ⟨n0, n1, n2⟩ := yQ3 hbox; simp only [zgd, zgb, zgc] at n0 n1 n2; have cx2 := za cx hbw
   cases hok : x.Y[k].okB
   ·have HF := zgn (Sg.okB_no hlt (Sg.okAt_bad hlt hok))
    have q0 := cell_regrown n0; have q1 := cell_regrown n1; have q2 := cell_regrown n2; have qx := cell_regrown cx2; refine wp_region_quiet_below (by kernel_rfl) (by kernel_rfl) ?_
    repeat (first | go_big_quiet_skip | quiet_step ((go_at_call 87; refine zgr (zbI _ _ _ _ (hrd.below (below_regrown _ _ _))))))
    refine wpQuiet_nil ?_; intro w3 hw3; obtain ⟨⟨dq, osq⟩, hw3⟩ := hw3; have hb3 : Below w2.heap.size w2 w3 := hw3 ▸ below_regrown w2 dq osq; clear hw3 q0 q1 q2 qx; go_wp2_with fail; go_ret; exact ⟨retB HF.out.symm, hBX.trans (hb3.mono (by omega))⟩
   have HOK := zgn hok
   rcases Nat.eq_zero_or_pos k with hk0 | hkp
   ·subst hk0
    have HE := zgn (Sg.okAt_zero hlt HOK.out); have q0 := cell_regrown n0; have q1 := cell_regrown n1; have q2 := cell_regrown n2; have qx := cell_regrown cx2; refine wp_region_quiet_below (by kernel_rfl) (by kernel_rfl) ?_
    repeat (first | go_big_quiet_skip | quiet_step ((go_at_call 87; refine zgr (zbI _ _ _ _ (hrd.below (below_regrown _ _ _))))))
    refine wpQuiet_nil ?_; intro w3 hw3; obtain ⟨⟨dq, osq⟩, hw3⟩ := hw3; have hb3 : Below w2.heap.size w2 w3 := hw3 ▸ below_regrown w2 dq osq; clear hw3 q0 q1 q2 qx; go_wp2_with fail; go_roundw
    case rel => exact ⟨1, by omega, by go_num, zgn (fun j hj => (show j = 0 by omega) ▸ HE.out), hLX.trans (hb3.mono (by omega))⟩
    case measure => simp [intOf]; omega
   ·obtain ⟨j, rfl⟩ : ∃ j, k = j + 1 := ⟨k - 1, by omega⟩
    have hlt1 : j < x.Y.length := by omega
    obtain ⟨_, _, _, p0', _, _, pm0, _⟩ := Sy.at (m0.below hBL) hlt1; have p0 := za p0' hbw; have hge := geq_run 9 x.Y[j].name x.Y[j + 1].name
    have hs1 : IntKind.i64.wrap (j : Int) = (j : Int) := by rw [IntWalk.i64_in _ (by omega)]
    have HS := zgn (Sg.okAt_succ hlt HOK.out)
    cases hcmp : nmLt x.Y[j].name x.Y[j + 1].name
    ·have HF := zgn (Sg.okB_no hlt (HS.out.trans hcmp))
     rw [hcmp] at hge; have q0 := cell_regrown n0; have q1 := cell_regrown n1; have q2 := cell_regrown n2; have qx := cell_regrown cx2; have qp := cell_regrown p0; refine wp_region_quiet_below (by kernel_rfl) (by kernel_rfl) ?_
     repeat (first | go_big_quiet_skip | quiet_step ((go_at_call 87; refine zgr (zbI _ _ _ _ (hrd.below (below_regrown _ _ _))))))
     refine wpQuiet_nil ?_; intro w3 hw3; obtain ⟨⟨dq, osq⟩, hw3⟩ := hw3; have hb3 : Below w2.heap.size w2 w3 := hw3 ▸ below_regrown w2 dq osq; clear hw3 q0 q1 q2 qx qp; go_wp2_with fail; go_ret; exact ⟨retB HF.out.symm, hBX.trans (hb3.mono (by omega))⟩
    ·have HE := zgn (HS.out.trans hcmp)
     rw [hcmp] at hge; have q0 := cell_regrown n0; have q1 := cell_regrown n1; have q2 := cell_regrown n2; have qx := cell_regrown cx2; have qp := cell_regrown p0; refine wp_region_quiet_below (by kernel_rfl) (by kernel_rfl) ?_
     repeat (first | go_big_quiet_skip | quiet_step ((go_at_call 87; refine zgr (zbI _ _ _ _ (hrd.below (below_regrown _ _ _))))))
     refine wpQuiet_nil ?_; intro w3 hw3; obtain ⟨⟨dq, osq⟩, hw3⟩ := hw3; have hb3 : Below w2.heap.size w2 w3 := hw3 ▸ below_regrown w2 dq osq; clear hw3 q0 q1 q2 qx qp; go_wp2_with fail; go_roundw
     case rel => exact ⟨j + 1 + 1, by omega, by go_num, zgn (fun i hi => by
       rcases Nat.lt_or_ge i (j + 1) with h | h
       ·exact hall.out i h
       ·obtain rfl : i = j + 1 := by omega
        exact HE.out), hLX.trans (hb3.mono (by omega))⟩
     case measure => simp [intOf]; omega
  ·have HE := zgn (Sg.okB_all (by omega) hall.out)
   go_wp2_with fail; go_ret
   exact ⟨retB (by rw [HE.out]; simp; try omega), hBL⟩
theorem Sg.okAt_cmp {s : Sg} {k : Nat} (hk : k + 1 < s.Y.length) (h : nmLt s.Y[k].name s.Y[k + 1].name = false) : s.okAt (k + 1) = false := by
 simp [Sg.okAt, zgp hk, zgp (show k < s.Y.length by omega), h]
theorem Sy.okB_name {x : Sy} (h : zat x.name = false) : x.okB = false := by simp [Sy.okB, h]
theorem Sy.okB_len {x : Sy} (h : ¬ x.args.length ≤ 2) : x.okB = false := by simp [Sy.okB, h]
theorem Sy.okB_sort {x : Sy} (h : srtB x.sort = false) : x.okB = false := by simp [Sy.okB, h]
theorem Sy.okB_args {x : Sy} (h : x.args.all srtB = false) : x.okB = false := by simp only [Sy.okB, h, Bool.and_false]
theorem Sy.okB_yes {x : Sy} (h1 : zat x.name = true) (h2 : x.args.length ≤ 2) (h3 : srtB x.sort = true) (h4 : x.args.all srtB = true) : x.okB = true := by simp only [Sy.okB, h1, decide_eq_true h2, h3, h4]; rfl
theorem zbl (x : Sg) (vs : List Value) (f : List Nat) (w : World) (hv : RdVs w x.cd vs f) :
  Calls Tryz.prog 55 #[.agg vs.toArray] w fun e w' => e = .returned (.bool x.okB) ∧ Below w.heap.size w w' := by
 obtain ⟨a0, c0, f0, rfl, _, m0⟩ := Sg.open hv; have hlen := zao m0; go_enter Tryz.func55, Tryz.ntmps55; go_wp2_with fail
 go_loopw [3] (fun i wq => ∃ k : Nat, k ≤ x.Y.length ∧ i = .int .i64 k ∧ Hid (∀ j, j < k → x.okAt j = true) ∧ Below (w.heap.size + 1) (w.alloc (.cells #[.slice a0 x.Y.length c0] 25)) wq) (fun i _ => x.Y.length - (intOf i).toNat)
 case atStart => exact ⟨0, zgx _, rfl, zgn (fun j h => by omega), zgz _ _⟩
 case round =>
  obtain ⟨k, hkl, rfl, hall, hL⟩ := hrel; obtain ⟨hxL, hzL, hBL⟩ := box1 hL; have cx := hxL 0; simp only [zgd, zgb, zgc] at cx
  by_cases hlt : k < x.Y.length
  ·obtain ⟨b, off, rfl, hbs, _⟩ := zl m0 (by omega)
   have hbz2 : b < wr.heap.size := by omega
   have hz0 : w.heap.size < wr.heap.size := by omega
   obtain ⟨ea1, ec1, ef1, d0, d1, d2, em0, em1, em2, _⟩ := Sy.at (m0.below hBL) hlt; have hlen2 := zao em1; have hBX := zaq (cs := #[.string x.Y[k].name, .slice ea1 x.Y[k].args.length ec1, .int .i64 x.Y[k].sort]) (T := 109) hBL (by omega); have hLX := zaq (cs := #[.string x.Y[k].name, .slice ea1 x.Y[k].args.length ec1, .int .i64 x.Y[k].sort]) (T := 109) hL (by omega); have hbox := zt wr #[.string x.Y[k].name, .slice ea1 x.Y[k].args.length ec1, .int .i64 x.Y[k].sort] 109
   have hsz : (wr.alloc (.cells #[.string x.Y[k].name, .slice ea1 x.Y[k].args.length ec1, .int .i64 x.Y[k].sort] 109)).heap.size = wr.heap.size + 1 := by simp
   obtain ⟨w2, hw2⟩ : ∃ w2, w2 = wr.alloc (.cells #[.string x.Y[k].name, .slice ea1 x.Y[k].args.length ec1, .int .i64 x.Y[k].sort] 109) := ⟨_, rfl⟩; have hbw : Below wr.heap.size wr w2 := hw2 ▸ zb _ _; go_wp2_with fail; rw [← hw2] at hBX hLX hbox hsz ⊢; clear hw2; obtain ⟨n0, n1, n2⟩ := yQ3 hbox; simp only [zgd, zgb, zgc] at n0 n1 n2; have cx2 := za cx hbw
   cases h1 : zat x.Y[k].name
   ·have HF := zgn (Sg.okB_no hlt (Sg.okAt_bad hlt (Sy.okB_name h1)))
    have q0 := cell_regrown n0; have q1 := cell_regrown n1; have q2 := cell_regrown n2; have qx := cell_regrown cx2; refine wp_region_quiet_below (by kernel_rfl) (by kernel_rfl) ?_
    repeat (first | go_big_quiet_skip | quiet_step (first | (go_at_call 99; refine zgr ((zap _ _ em0).mono (fun e w' h => ⟨h.1, h.2 ▸ zgz _ _⟩))) | (go_at_call 100; refine zgr ((zaz _ _).mono (fun e w' h => ⟨h.1, h.2 ▸ zgz _ _⟩)))))
    refine wpQuiet_nil ?_; intro w3 hw3; obtain ⟨⟨dq, osq⟩, hw3⟩ := hw3; have hb3 : Below w2.heap.size w2 w3 := hw3 ▸ below_regrown w2 dq osq; clear hw3 q0 q1 q2 qx; go_wp2_with fail; go_ret; exact ⟨retB HF.out.symm, hBX.trans (hb3.mono (by omega))⟩
   have H1 := zgn h1
   by_cases h2 : x.Y[k].args.length ≤ 2
   rotate_left
   ·have HF := zgn (Sg.okB_no hlt (Sg.okAt_bad hlt (Sy.okB_len h2)))
    have t2 : decide ((2 : Int) < (x.Y[k].args.length : Int)) = true := by simp; omega
    have q0 := cell_regrown n0; have q1 := cell_regrown n1; have q2 := cell_regrown n2; have qx := cell_regrown cx2; refine wp_region_quiet_below (by kernel_rfl) (by kernel_rfl) ?_
    repeat (first | go_big_quiet_skip | quiet_step (first | (go_at_call 99; refine zgr ((zap _ _ em0).mono (fun e w' h => ⟨h.1, h.2 ▸ zgz _ _⟩))) | (go_at_call 100; refine zgr ((zaz _ _).mono (fun e w' h => ⟨h.1, h.2 ▸ zgz _ _⟩)))))
    refine wpQuiet_nil ?_; intro w3 hw3; obtain ⟨⟨dq, osq⟩, hw3⟩ := hw3; have hb3 : Below w2.heap.size w2 w3 := hw3 ▸ below_regrown w2 dq osq; clear hw3 q0 q1 q2 qx; go_wp2_with fail; go_ret; exact ⟨retB HF.out.symm, hBX.trans (hb3.mono (by omega))⟩
   have t2 : decide ((2 : Int) < (x.Y[k].args.length : Int)) = false := by simp; omega
   cases h3 : srtB x.Y[k].sort
   ·have HF := zgn (Sg.okB_no hlt (Sg.okAt_bad hlt (Sy.okB_sort h3)))
    have q0 := cell_regrown n0; have q1 := cell_regrown n1; have q2 := cell_regrown n2; have qx := cell_regrown cx2; refine wp_region_quiet_below (by kernel_rfl) (by kernel_rfl) ?_
    repeat (first | go_big_quiet_skip | quiet_step (first | (go_at_call 99; refine zgr ((zap _ _ em0).mono (fun e w' h => ⟨h.1, h.2 ▸ zgz _ _⟩))) | (go_at_call 100; refine zgr ((zaz _ _).mono (fun e w' h => ⟨h.1, h.2 ▸ zgz _ _⟩)))))
    refine wpQuiet_nil ?_; intro w3 hw3; obtain ⟨⟨dq, osq⟩, hw3⟩ := hw3; have hb3 : Below w2.heap.size w2 w3 := hw3 ▸ below_regrown w2 dq osq; clear hw3 q0 q1 q2 qx; go_wp2_with fail; go_ret; exact ⟨retB HF.out.symm, hBX.trans (hb3.mono (by omega))⟩
   have H3 := zgn h3
   rcases Nat.eq_zero_or_pos k with hk0 | hkp
   ·subst hk0
    have HFIN : Hid (x.Y[0].args.all srtB = true → x.okAt 0 = true) := zgn (fun h => Sg.okAt_zero hlt (Sy.okB_yes H1.out h2 H3.out h)); have HALL : Hid (x.okAt 0 = true → ∀ j, j < 0 + 1 → x.okAt j = true) := zgn (fun h j hj => (show j = 0 by omega) ▸ h); have q0 := cell_regrown n0; have q1 := cell_regrown n1; have q2 := cell_regrown n2; have qx := cell_regrown cx2; refine wp_region_quiet_below (by kernel_rfl) (by kernel_rfl) ?_
    repeat (first | go_big_quiet_skip | quiet_step (first | (go_at_call 99; refine zgr ((zap _ _ em0).mono (fun e w' h => ⟨h.1, h.2 ▸ zgz _ _⟩))) | (go_at_call 100; refine zgr ((zaz _ _).mono (fun e w' h => ⟨h.1, h.2 ▸ zgz _ _⟩)))))
    refine wpQuiet_nil ?_; intro w3 hw3; obtain ⟨⟨dq, osq⟩, hw3⟩ := hw3; have hb3 : Below w2.heap.size w2 w3 := hw3 ▸ below_regrown w2 dq osq; clear hw3 q0 q1 q2 qx; go_wp2_with fail; have n1' := za n1 hb3; have em1w := (em1.below hbw).below hb3; have hL3 := hLX.trans (hb3.mono (by omega)); have hB3 := hBX.trans (hb3.mono (by omega)); have hsz3 := hb3.size
    go_loopw [5] (fun i wq => ∃ g : Nat, g ≤ x.Y[0].args.length ∧ i = .int .i64 g ∧ Hid ((x.Y[0].args.take g).all srtB = true) ∧ Below w3.heap.size w3 wq) (fun i _ => x.Y[0].args.length - (intOf i).toNat)
    case atStart => exact ⟨0, zgx _, rfl, zgn (by simp), zgz _ _⟩
    case round =>
     obtain ⟨g, hgl, rfl, hallg, hM⟩ := hrel; have gx := za n1' hM; have hszm := hM.size
     by_cases hgt : g < x.Y[0].args.length
     ·have em1m := em1w.below hM
      obtain ⟨eb, eo, rfl, ebs, _⟩ := zl em1m (by omega); obtain ⟨g0, _⟩ := zan em1m hgt; go_wp2_with fail; refine (zaz _ _).mono ?_; rintro e w5 ⟨rfl, rfl⟩
      cases he : srtB x.Y[0].args[g]
      ·have HF := zgn (Sg.okB_no hlt (Sg.okAt_bad hlt (Sy.okB_args (zcv hgt he))))
       have he' : (!srtB x.Y[0].args[g]) = true := by rw [he]; rfl
       go_wp2_with fail; go_ret; exact ⟨retB HF.out.symm, hB3.trans (hM.mono (by omega))⟩
      ·have HE := zgn (zby hgt hallg.out he)
       have he' : (!srtB x.Y[0].args[g]) = false := by rw [he]; rfl
       go_wp2_with fail; go_roundw
       case rel => exact ⟨g + 1, by omega, by go_num, HE, hM⟩
       case measure => simp [intOf]; omega
     ·have HE := zgn (HFIN.out (by have := hallg.out; rwa [zgq (by omega)] at this))
      go_wp2_with fail; go_roundw
      case rel => exact ⟨0 + 1, by omega, by go_num, zgn (HALL.out HE.out), hL3.trans (hM.mono (by omega))⟩
      case measure => simp [intOf]; omega
   ·obtain ⟨j, rfl⟩ : ∃ j, k = j + 1 := ⟨k - 1, by omega⟩
    have hlt1 : j < x.Y.length := by omega
    obtain ⟨_, _, _, p0', _, _, pm0, _⟩ := Sy.at (m0.below hBL) hlt1; have p0 := za p0' hbw; have hge := geq_run 9 x.Y[j].name x.Y[j + 1].name
    have hs1 : IntKind.i64.wrap (j : Int) = (j : Int) := by rw [IntWalk.i64_in _ (by omega)]
    cases hcmp : nmLt x.Y[j].name x.Y[j + 1].name
    ·have HF := zgn (Sg.okB_no hlt (Sg.okAt_cmp hlt hcmp))
     rw [hcmp] at hge; have q0 := cell_regrown n0; have q1 := cell_regrown n1; have q2 := cell_regrown n2; have qx := cell_regrown cx2; have qp := cell_regrown p0; refine wp_region_quiet_below (by kernel_rfl) (by kernel_rfl) ?_
     repeat (first | go_big_quiet_skip | quiet_step (first | (go_at_call 99; refine zgr ((zap _ _ em0).mono (fun e w' h => ⟨h.1, h.2 ▸ zgz _ _⟩))) | (go_at_call 100; refine zgr ((zaz _ _).mono (fun e w' h => ⟨h.1, h.2 ▸ zgz _ _⟩)))))
     refine wpQuiet_nil ?_; intro w3 hw3; obtain ⟨⟨dq, osq⟩, hw3⟩ := hw3; have hb3 : Below w2.heap.size w2 w3 := hw3 ▸ below_regrown w2 dq osq; clear hw3 q0 q1 q2 qx qp; go_wp2_with fail; go_ret; exact ⟨retB HF.out.symm, hBX.trans (hb3.mono (by omega))⟩
    ·have HFIN : Hid (x.Y[j + 1].args.all srtB = true → x.okAt (j + 1) = true) := zgn (fun h => (Sg.okAt_succ hlt (Sy.okB_yes H1.out h2 H3.out h)).trans hcmp)
     have HALL : Hid (x.okAt (j + 1) = true → ∀ i, i < j + 1 + 1 → x.okAt i = true) := zgn (fun h i hi => by
      rcases Nat.lt_or_ge i (j + 1) with h' | h'
      ·exact hall.out i h'
      ·obtain rfl : i = j + 1 := by omega
       exact h)
     rw [hcmp] at hge; have q0 := cell_regrown n0; have q1 := cell_regrown n1; have q2 := cell_regrown n2; have qx := cell_regrown cx2; have qp := cell_regrown p0; refine wp_region_quiet_below (by kernel_rfl) (by kernel_rfl) ?_
     repeat (first | go_big_quiet_skip | quiet_step (first | (go_at_call 99; refine zgr ((zap _ _ em0).mono (fun e w' h => ⟨h.1, h.2 ▸ zgz _ _⟩))) | (go_at_call 100; refine zgr ((zaz _ _).mono (fun e w' h => ⟨h.1, h.2 ▸ zgz _ _⟩)))))
     refine wpQuiet_nil ?_; intro w3 hw3; obtain ⟨⟨dq, osq⟩, hw3⟩ := hw3; have hb3 : Below w2.heap.size w2 w3 := hw3 ▸ below_regrown w2 dq osq; clear hw3 q0 q1 q2 qx qp; go_wp2_with fail; have n1' := za n1 hb3; have em1w := (em1.below hbw).below hb3; have hL3 := hLX.trans (hb3.mono (by omega)); have hB3 := hBX.trans (hb3.mono (by omega)); have hsz3 := hb3.size
     go_loopw [5] (fun i wq => ∃ g : Nat, g ≤ x.Y[j + 1].args.length ∧ i = .int .i64 g ∧ Hid ((x.Y[j + 1].args.take g).all srtB = true) ∧ Below w3.heap.size w3 wq) (fun i _ => x.Y[j + 1].args.length - (intOf i).toNat)
     case atStart => exact ⟨0, zgx _, rfl, zgn (by simp), zgz _ _⟩
     case round =>
      obtain ⟨g, hgl, rfl, hallg, hM⟩ := hrel; have gx := za n1' hM; have hszm := hM.size
      by_cases hgt : g < x.Y[j + 1].args.length
      ·have em1m := em1w.below hM
       obtain ⟨eb, eo, rfl, ebs, _⟩ := zl em1m (by omega); obtain ⟨g0, _⟩ := zan em1m hgt; go_wp2_with fail; refine (zaz _ _).mono ?_; rintro e w5 ⟨rfl, rfl⟩
       cases he : srtB x.Y[j + 1].args[g]
       ·have HF := zgn (Sg.okB_no hlt (Sg.okAt_bad hlt (Sy.okB_args (zcv hgt he))))
        have he' : (!srtB x.Y[j + 1].args[g]) = true := by rw [he]; rfl
        go_wp2_with fail; go_ret; exact ⟨retB HF.out.symm, hB3.trans (hM.mono (by omega))⟩
       ·have HE := zgn (zby hgt hallg.out he)
        have he' : (!srtB x.Y[j + 1].args[g]) = false := by rw [he]; rfl
        go_wp2_with fail; go_roundw
        case rel => exact ⟨g + 1, by omega, by go_num, HE, hM⟩
        case measure => simp [intOf]; omega
      ·have HE := zgn (HFIN.out (by have := hallg.out; rwa [zgq (by omega)] at this))
       go_wp2_with fail; go_roundw
       case rel => exact ⟨j + 1 + 1, by omega, by go_num, zgn (HALL.out HE.out), hL3.trans (hM.mono (by omega))⟩
       case measure => simp [intOf]; omega
  ·have HE := zgn (Sg.okB_all (by omega) hall.out)
   go_wp2_with fail; go_ret
   exact ⟨retB (by rw [HE.out]; simp; try omega), hBL⟩
def Sg.find (s : Sg) (n : ByteArray) : Option Sy := s.Y.find? (fun x => decide (x.name = n))
def FindOut (s : Sg) (n : ByteArray) (w : World) (e : Ending) (w' : World) : Prop :=
 ∃ (x : Sy) (ok : Bool) (vs : List Value) (fp : List Nat), e = .returned (.tuple #[.agg vs.toArray, .bool ok]) ∧ RdVs w' x.cd vs fp ∧ ((ok = true ∧ s.find n = some x) ∨ (ok = false ∧ s.find n = none)) ∧ Below w.heap.size w w'
def NotYet (s : Sg) (n : ByteArray) (k : Nat) : Prop := ∀ x ∈ s.Y.take k, ¬ x.name = n
theorem NotYet.succ {s : Sg} {n : ByteArray} {k : Nat} (h : NotYet s n k) (hk : k < s.Y.length) (h' : ¬ s.Y[k].name = n) : NotYet s n (k + 1) := by
 intro x hx; rw [zgf hk] at hx
 rcases zgg.1 hx with h1 | h1
 ·exact h x h1
 ·obtain rfl := List.mem_singleton.1 h1; exact h'
theorem NotYet.found {s : Sg} {n : ByteArray} {k : Nat} (h : NotYet s n k) (hk : k < s.Y.length) (h' : s.Y[k].name = n) : s.find n = some s.Y[k] := by
 have e : s.Y = s.Y.take k ++ s.Y[k] :: s.Y.drop (k + 1) := by rw [← List.drop_eq_getElem_cons hk, List.take_append_drop]
 have h2 : ∀ l : List Sy, l = s.Y.take k ++ s.Y[k] :: s.Y.drop (k + 1) → l.find? (fun x => decide (x.name = n)) = some s.Y[k] := by
  intro l hl; rw [hl, List.find?_append, List.find?_eq_none.2 (fun x hx => by simpa using h x hx)]; simp only [Option.none_or, List.find?_cons, h', decide_true]
 exact h2 _ e
theorem NotYet.all {s : Sg} {n : ByteArray} {k : Nat} (h : NotYet s n k) (hk : s.Y.length ≤ k) : s.find n = none := by
 unfold NotYet at h; rw [zgq hk] at h; exact List.find?_eq_none.2 (fun x hx => by simpa using h x hx)
def Sy.zero : Sy := ⟨⟨#[]⟩, [], 0⟩
theorem Sy.zero_rd (w : World) : RdVs w Sy.zero.cd [.string ⟨#[]⟩, .slice none 0 0, .int .i64 0] [] :=
 Sy.close (x := Sy.zero) (a1 := none) (c1 := 0) (zgx _) (by simp only [Sy.zero, List.map_nil, Rd]; exact ⟨none, 0, rfl, by simp, by simp [maxLen], by simp⟩) (by unfold I64 Sy.zero; exact ⟨by decide, by decide⟩)
theorem zfk (s : Sg) (n : ByteArray) (vs : List Value) (f : List Nat) (w : World) (hn : n.size ≤ maxLen) (hv : RdVs w s.cd vs f) :
  Calls Tryz.prog 158 #[.agg vs.toArray, .string n] w (FindOut s n w) := by
 obtain ⟨a0, c0, f0, rfl, _, m0⟩ := Sg.open hv; have hlen := zao m0; go_enter Tryz.func158, Tryz.ntmps158; go_wp2_with fail
 go_loopw [11] (fun i wq => ∃ k : Nat, k ≤ s.Y.length ∧ i = .int .i64 k ∧ Hid (NotYet s n k) ∧ Below (w.heap.size + 1 + 1) ((w.alloc (.cells #[.slice a0 s.Y.length c0] 25)).alloc (.cells #[.string ⟨#[]⟩, .slice none 0 0, .int .i64 0] 109)) wq) (fun i _ => s.Y.length - (intOf i).toNat)
 case atStart => exact ⟨0, zgx _, rfl, zgn (fun x hx => by simp at hx), zgz _ _⟩
 case round =>
  obtain ⟨k, hkl, rfl, hall, hL⟩ := hrel; obtain ⟨hxL, hyL, hzL, hBL⟩ := box2 hL; have hfy := fun j => (zJ hL j).2; have cx := hxL 0; simp only [zgd, zgb, zgc] at cx
  by_cases hlt : k < s.Y.length
  ·obtain ⟨b, off, rfl, hbs, _⟩ := zl m0 (by omega)
   have hbz2 : b < wr.heap.size := by omega
   have hz0 : w.heap.size < wr.heap.size := by omega
   have hz1 : w.heap.size + 1 < wr.heap.size := by omega
   obtain ⟨ea1, ec1, ef1, d0', d1', d2', em0, em1, em2, _⟩ := Sy.at m0 hlt; have d0 := za d0' hBL; have d1 := za d1' hBL; have d2 := za d2' hBL; have hLX := zaq (cs := #[.string s.Y[k].name, .slice ea1 s.Y[k].args.length ec1, .int .i64 s.Y[k].sort]) (T := 109) hL (by omega); have hBX := zaq (cs := #[.string s.Y[k].name, .slice ea1 s.Y[k].args.length ec1, .int .i64 s.Y[k].sort]) (T := 109) hBL (by omega)
   have hsz : (wr.alloc (.cells #[.string s.Y[k].name, .slice ea1 s.Y[k].args.length ec1, .int .i64 s.Y[k].sort] 109)).heap.size = wr.heap.size + 1 := by simp
   by_cases hnm : s.Y[k].name.toList = n.toList
   ·have HF := zgn (hall.out.found hlt (zaD.1 hnm))
    have hres := zh (zw (b := w.heap.size + 1) [(0, .string s.Y[k].name), (1, .slice ea1 s.Y[k].args.length ec1), (2, .int .i64 s.Y[k].sort)] hyL (by simp)) (by simp [zi]; omega) (zb _ (.cells #[.string s.Y[k].name, .slice ea1 s.Y[k].args.length ec1, .int .i64 s.Y[k].sort] 109)); simp only [zi, zag, zfZ, zga] at hres; obtain ⟨hf0, hf1, hf2⟩ := yQ3 hfy; obtain ⟨y0, y1, y2⟩ := yQ3 hyL; simp only [zgd, zgb, zgc] at y0 y1 y2; have n0 := zt wr #[.string s.Y[k].name, .slice ea1 s.Y[k].args.length ec1, .int .i64 s.Y[k].sort] 109; clear hyL hfy; go_wp2_with fail; refine bodyPost_ret (v := .tuple #[.agg #[.string s.Y[k].name, .slice ea1 s.Y[k].args.length ec1, .int .i64 s.Y[k].sort], .bool true]) (by simp [results, Tryz.results158, go_sem, hres]) rfl ?_; have hBF := zaq (cs := #[.string s.Y[k].name, .slice ea1 s.Y[k].args.length ec1, .int .i64 s.Y[k].sort]) (T := 109) (((hBL.setCell (p := ⟨w.heap.size + 1, 0, none⟩) (by simp) (.string s.Y[k].name)).setCell (p := ⟨w.heap.size + 1, 1, none⟩) (by simp) (.slice ea1 s.Y[k].args.length ec1)).setCell (p := ⟨w.heap.size + 1, 2, none⟩) (by simp) (.int .i64 s.Y[k].sort)) (by simp; omega); exact ⟨s.Y[k], true, _, _, rfl, (Sy.close em0 em1 em2).below hBF, .inl ⟨rfl, HF.out⟩, hBF⟩
   ·have HN := zgn (hall.out.succ hlt (fun h => hnm (zaD.2 h)))
    have hnb : (s.Y[k].name.toList == n.toList) = false := by simpa using hnm
    go_wp2_with fail; go_roundw
    case rel => exact ⟨k + 1, by omega, by go_num, HN, hLX⟩
    case measure => simp [intOf]; omega
  ·have HF := zgn (hall.out.all (by omega))
   have hres := zw (b := w.heap.size + 1) [(0, .string ⟨#[]⟩), (1, .slice none 0 0), (2, .int .i64 0)] hyL (by simp); simp only [zi, zag, zfZ, zga] at hres; obtain ⟨hf0, hf1, hf2⟩ := yQ3 hfy; go_wp2_with fail; refine bodyPost_ret (v := .tuple #[.agg #[.string ⟨#[]⟩, .slice none 0 0, .int .i64 0], .bool false]) (by simp [results, Tryz.results158, go_sem, hres]) rfl ?_; have hBF := ((hBL.setCell (p := ⟨w.heap.size + 1, 0, none⟩) (by simp) (.string ⟨#[]⟩)).setCell (p := ⟨w.heap.size + 1, 1, none⟩) (by simp) (.slice none 0 0)).setCell (p := ⟨w.heap.size + 1, 2, none⟩) (by simp) (.int .i64 0); exact ⟨Sy.zero, false, _, _, rfl, Sy.zero_rd _, .inr ⟨rfl, HF.out⟩, hBF⟩
theorem zfl (s : Sg) (n : ByteArray) (vs : List Value) (f : List Nat) (w : World) (hn : n.size ≤ maxLen) (hv : RdVs w s.cd vs f) :
  Calls Tryz.prog 153 #[.agg vs.toArray, .string n] w (FindOut s n w) := by
 obtain ⟨a0, c0, f0, rfl, _, m0⟩ := Sg.open hv; have hlen := zao m0; go_enter Tryz.func153, Tryz.ntmps153; go_wp2_with fail
 go_loopw [6] (fun i wq => ∃ k : Nat, k ≤ s.Y.length ∧ i = .int .i64 k ∧ Hid (NotYet s n k) ∧ Below (w.heap.size + 1 + 1) ((w.alloc (.cells #[.slice a0 s.Y.length c0] 25)).alloc (.cells #[.string ⟨#[]⟩, .slice none 0 0, .int .i64 0] 109)) wq) (fun i _ => s.Y.length - (intOf i).toNat)
 case atStart => exact ⟨0, zgx _, rfl, zgn (fun x hx => by simp at hx), zgz _ _⟩
 case round =>
  obtain ⟨k, hkl, rfl, hall, hL⟩ := hrel; obtain ⟨hxL, hyL, hzL, hBL⟩ := box2 hL; have hfy := fun j => (zJ hL j).2; have cx := hxL 0; simp only [zgd, zgb, zgc] at cx
  by_cases hlt : k < s.Y.length
  ·obtain ⟨b, off, rfl, hbs, _⟩ := zl m0 (by omega)
   have hbz2 : b < wr.heap.size := by omega
   have hz0 : w.heap.size < wr.heap.size := by omega
   have hz1 : w.heap.size + 1 < wr.heap.size := by omega
   obtain ⟨ea1, ec1, ef1, d0', d1', d2', em0, em1, em2, _⟩ := Sy.at m0 hlt; have d0 := za d0' hBL; have d1 := za d1' hBL; have d2 := za d2' hBL
   by_cases hnm : s.Y[k].name.toList = n.toList
   ·have HF := zgn (hall.out.found hlt (zaD.1 hnm))
    have hres := zw (b := w.heap.size + 1) [(0, .string s.Y[k].name), (1, .slice ea1 s.Y[k].args.length ec1), (2, .int .i64 s.Y[k].sort)] hyL (by simp); simp only [zi, zag, zfZ, zga] at hres; obtain ⟨hf0, hf1, hf2⟩ := yQ3 hfy; obtain ⟨y0, y1, y2⟩ := yQ3 hyL; simp only [zgd, zgb, zgc] at y0 y1 y2; clear hyL hfy; go_wp2_with fail; refine bodyPost_ret (v := .tuple #[.agg #[.string s.Y[k].name, .slice ea1 s.Y[k].args.length ec1, .int .i64 s.Y[k].sort], .bool true]) (by simp [results, Tryz.results153, go_sem, hres]) rfl ?_; have hBF := ((hBL.setCell (p := ⟨w.heap.size + 1, 0, none⟩) (by simp) (.string s.Y[k].name)).setCell (p := ⟨w.heap.size + 1, 1, none⟩) (by simp) (.slice ea1 s.Y[k].args.length ec1)).setCell (p := ⟨w.heap.size + 1, 2, none⟩) (by simp) (.int .i64 s.Y[k].sort); exact ⟨s.Y[k], true, _, _, rfl, (Sy.close em0 em1 em2).below hBF, .inl ⟨rfl, HF.out⟩, hBF⟩
   ·have HN := zgn (hall.out.succ hlt (fun h => hnm (zaD.2 h)))
    have hnb : (s.Y[k].name.toList == n.toList) = false := by simpa using hnm
    go_wp2_with fail; go_roundw
    case rel => exact ⟨k + 1, by omega, by go_num, HN, hL⟩
    case measure => simp [intOf]; omega
  ·have HF := zgn (hall.out.all (by omega))
   have hres := zw (b := w.heap.size + 1) [(0, .string ⟨#[]⟩), (1, .slice none 0 0), (2, .int .i64 0)] hyL (by simp); simp only [zi, zag, zfZ, zga] at hres; obtain ⟨hf0, hf1, hf2⟩ := yQ3 hfy; go_wp2_with fail; refine bodyPost_ret (v := .tuple #[.agg #[.string ⟨#[]⟩, .slice none 0 0, .int .i64 0], .bool false]) (by simp [results, Tryz.results153, go_sem, hres]) rfl ?_; have hBF := ((hBL.setCell (p := ⟨w.heap.size + 1, 0, none⟩) (by simp) (.string ⟨#[]⟩)).setCell (p := ⟨w.heap.size + 1, 1, none⟩) (by simp) (.slice none 0 0)).setCell (p := ⟨w.heap.size + 1, 2, none⟩) (by simp) (.int .i64 0); exact ⟨Sy.zero, false, _, _, rfl, Sy.zero_rd _, .inr ⟨rfl, HF.out⟩, hBF⟩
mutual
def Tm.srt (s : Sg) : Tm → Option Int
 | .mk n ks => match s.find n with
  | none => none
  | some x => if Tm.srts s ks x.args = true then some x.sort else none
def Tm.srts (s : Sg) : List Tm → List Int → Bool
 | [], [] => true
 | t :: ts, a :: l => (Tm.srt s t == some a) && Tm.srts s ts l
 | _, _ => false
end
theorem Tm.srts_iff (s : Sg) : ∀ (ts : List Tm) (l : List Int), Tm.srts s ts l = true ↔ ts.length = l.length ∧ ∀ k (h : k < ts.length) (h' : k < l.length), ts[k].srt s = some l[k]
 | [], [] => by simp [Tm.srts]
 | [], _ :: _ => by simp [Tm.srts]
 | _ :: _, [] => by simp [Tm.srts]
 | t :: ts, a :: l => by
  simp only [Tm.srts, zgm, beq_iff_eq, Tm.srts_iff s ts l, zgw]
  constructor
  ·rintro ⟨h1, h2, h3⟩
   refine ⟨by omega, fun k h h' => ?_⟩
   cases k with
   | zero => simpa using h1
   | succ k => simpa using h3 k (by simpa using h) (by simpa using h')
  ·rintro ⟨h1, h2⟩
   exact ⟨by simpa using h2 0 (by simp) (by simp), by omega, fun k h h' => h2 (k + 1) (by simpa using h) (by simpa using h')⟩
theorem Tm.srt_eq (s : Sg) (t : Tm) : t.srt s = match s.find t.name with | none => none | some x => if Tm.srts s t.K x.args = true then some x.sort else none := by cases t; rw [Tm.srt]; rfl
theorem Tm.srt_none {s : Sg} {t : Tm} (h : s.find t.name = none) : t.srt s = none := by rw [Tm.srt_eq, h]
theorem Tm.srt_len {s : Sg} {t : Tm} {x : Sy} (h : s.find t.name = some x) (hl : ¬ x.args.length = t.K.length) : t.srt s = none := by
 rw [Tm.srt_eq, h]; simp only; rw [if_neg]; rw [Tm.srts_iff]; exact fun ⟨h1, _⟩ => hl h1.symm
theorem Tm.srt_kid {s : Sg} {t : Tm} {x : Sy} (h : s.find t.name = some x) {k : Nat} (h1 : k < t.K.length) (h2 : k < x.args.length) (hne : ¬ t.K[k].srt s = some x.args[k]) : t.srt s = none := by
 rw [Tm.srt_eq, h]; simp only; rw [if_neg]; rw [Tm.srts_iff]; exact fun ⟨_, h3⟩ => hne (h3 k h1 h2)
def SrtUpTo (s : Sg) (ts : List Tm) (l : List Int) (k : Nat) : Prop := ∀ j, j < k → ∀ (h1 : j < ts.length) (h2 : j < l.length), ts[j].srt s = some l[j]
theorem SrtUpTo.succ {s : Sg} {ts : List Tm} {l : List Int} {k : Nat} (h : SrtUpTo s ts l k) (h1 : k < ts.length) (h2 : k < l.length) (he : ts[k].srt s = some l[k]) : SrtUpTo s ts l (k + 1) := fun j hj g1 g2 => by
 rcases Nat.lt_or_ge j k with h' | h'
 ·exact h j h' g1 g2
 ·obtain rfl : j = k := by omega
  exact he
theorem Tm.srt_yes {s : Sg} {t : Tm} {x : Sy} (h : s.find t.name = some x) (hl : x.args.length = t.K.length) {k : Nat} (hk : t.K.length ≤ k) (hall : SrtUpTo s t.K x.args k) : t.srt s = some x.sort := by
 rw [Tm.srt_eq, h]; simp only; rw [if_pos]; rw [Tm.srts_iff]; exact ⟨hl.symm, fun j h1 h2 => hall j (by omega) h1 h2⟩
def SrtOut (o : Option Int) (w : World) (e : Ending) (w' : World) : Prop := e = .returned (.tuple #[.int .i64 (o.getD 0), .bool o.isSome]) ∧ Below w.heap.size w w'
theorem Tm.rdv {w : World} {t : Tm} {a : Option Addr} {c : Nat} {f : List Nat} (h0 : t.name.size ≤ maxLen) (h1 : Rd w (.sl (t.K.map Tm.cd)) (.slice a t.K.length c) f) : RdVs w t.cd [.string t.name, .slice a t.K.length c] f := Tm.close h0 h1
theorem zfm (s : Sg) (n : Nat) : ∀ (t : Tm) (vs us : List Value) (f f' : List Nat) (w : World), t.size ≤ n → RdVs w s.cd vs f → RdVs w t.cd us f' →
  Calls Tryz.prog 146 #[.agg vs.toArray, .agg us.toArray] w (SrtOut (t.srt s) w) := by
 induction n with
 | zero => intro t; have := t.size_pos; omega
 | succ n ih =>
  intro t vs us f f' w hn hv hx; have IH := zgn ih; clear ih; obtain ⟨a0, c0, f0, rfl, _, m0⟩ := Sg.open hv; obtain ⟨b1, e1, g1, rfl, _, t0, t1⟩ := Tm.open hx; have hlen := zao t1; go_enter Tryz.func146, Tryz.ntmps146; go_wp2_with fail; refine (zfk s t.name _ _ _ t0 (by exact hv.below (((zgz _ _).alloc (zgo _) _).alloc (by simp) _))).mono ?_; rintro e w1 ⟨x, ok, xs, xf, rfl, hxr, hfind, hb1⟩; obtain ⟨hxL, hyL, hzL, hBL⟩ := box2 (w := w) (wr := w1) (cs := #[.slice a0 s.Y.length c0]) (ds := #[.string t.name, .slice b1 t.K.length e1]) (T := 25) (U := 28) (zm hb1 (by simp)); obtain ⟨xa, xc, xg, rfl, _, q0, q1, q2⟩ := Sy.open hxr; have cx := hxL 0; have cy0 := hyL 0; have cy1 := hyL 1; simp only [zgd, zgb, zgc] at cx cy0 cy1; clear hxL hyL; have hlx := zao q1
  have hz0 : w.heap.size < w1.heap.size := by omega
  have hz1 : w.heap.size + 1 < w1.heap.size := by omega
  rcases hfind with ⟨rfl, hfind⟩ | ⟨rfl, hfind⟩
  rotate_left
  ·have HF := zgn (Tm.srt_none hfind)
   clear hfind; go_wp2_with fail
   go_ret2
   exact ⟨by rw [HF.out]; rfl, zaq hBL (by omega)⟩
  have HFIND := zgn hfind; clear hfind
  by_cases hl : x.args.length = t.K.length
  rotate_left
  ·have HF := zgn (Tm.srt_len HFIND.out hl)
   have hne : ((x.args.length : Int) != (t.K.length : Int)) = true := by rw [bne_iff_ne]; omega
   clear hl; go_wp2_with fail
   go_ret2
   exact ⟨by rw [HF.out]; rfl, zaq hBL (by omega)⟩
  have HL := zgn hl
  have hne : ((x.args.length : Int) != (t.K.length : Int)) = false := by rw [hl]; simp
  have hl1 : x.args.length ≤ t.K.length := by omega
  have hl2 : t.K.length ≤ x.args.length := by omega
  clear hl; have n0 := zt w1 #[.string x.name, .slice xa x.args.length xc, .int .i64 x.sort] 109; have hbw := zb w1 (.cells #[.string x.name, .slice xa x.args.length xc, .int .i64 x.sort] 109)
  have hsz : (w1.alloc (.cells #[.string x.name, .slice xa x.args.length xc, .int .i64 x.sort] 109)).heap.size = w1.heap.size + 1 := by simp
  obtain ⟨w2, hw2⟩ : ∃ w2, w2 = w1.alloc (.cells #[.string x.name, .slice xa x.args.length xc, .int .i64 x.sort] 109) := ⟨_, rfl⟩; go_wp2_with fail; rw [← hw2] at n0 hbw hsz ⊢; clear hw2; have d1 := n0 1; have d2 := n0 2; simp only [zgd, zgb, zgc] at d1 d2; clear n0; have cx := za cx hbw; have cy1 := za cy1 hbw; have q1 := q1.below hbw; have hB2 := hBL.trans (hbw.mono (by omega)); clear hbw
  go_loopw [33] (fun i wq => ∃ k : Nat, k ≤ t.K.length ∧ i = .int .i64 k ∧ Hid (SrtUpTo s t.K x.args k) ∧ Below w2.heap.size w2 wq) (fun i _ => t.K.length - (intOf i).toNat)
  case atStart => exact ⟨0, zgx _, rfl, zgn (fun j hj => by omega), zgz _ _⟩
  case round =>
   obtain ⟨k, hkl, rfl, hall, hM⟩ := hrel; have hszm := hM.size; have cxm := za cx hM; have d1m := za d1 hM; have d2m := za d2 hM; have hBM := hB2.trans (hM.mono (by omega))
   by_cases hlt : k < t.K.length
   ·have hlt' : k < x.args.length := by omega
    obtain ⟨b, off, rfl, hbs, _⟩ := zl t1 (by omega); have q1m := q1.below hM; obtain ⟨xb, xo, rfl, hxs, _⟩ := zl q1m (by omega); obtain ⟨ka, kc, kf, k0, k1, km0, km1, _⟩ := Tm.at (t1.below hBM) hlt; obtain ⟨ga, _⟩ := zan q1m hlt'; have hkn := Tm.size_kid hlt
    have hbz : b < wr.heap.size := by omega
    have hz2 : w1.heap.size < wr.heap.size := by omega
    have hz3 : w.heap.size < wr.heap.size := by omega
    have hbk := zb wr (.cells #[.string t.K[k].name, .slice ka t.K[k].K.length kc] 28); go_wp2_with fail; refine (IH.out t.K[k] _ _ _ _ _ (by omega) (by exact hv.below (hBM.trans (hbk.mono hBM.size))) (by exact (Tm.rdv km0 km1).below hbk)).mono ?_; rintro e w4 ⟨rfl, hb4⟩; have hb5 := hbk.trans (hb4.mono hbk.size); have hM5 := hM.trans (hb5.mono hszm); have hB5 := hBM.trans (hb5.mono hBM.size); have cx5 := za cxm hb5; have d15 := za d1m hb5; have d25 := za d2m hb5; have ga5 := za ga hb5; clear hb4 hbk
    cases ho : t.K[k].srt s with
    | none =>
     have HF := zgn (Tm.srt_kid HFIND.out hlt hlt' (by rw [ho]; simp)); clear ho; simp only [Option.getD_none, Option.isSome_none]; go_wp2_with fail
     go_ret2
     exact ⟨by rw [HF.out]; rfl, hB5⟩
    | some m =>
     have HO := zgn ho; clear ho; simp only [Option.getD_some, Option.isSome_some]
     cases hc : (m == x.args[k])
     ·have HF := zgn (Tm.srt_kid HFIND.out hlt hlt' (by rw [HO.out]; simpa using hc))
      have hcn : (m != x.args[k]) = true := by rw [bne, hc]; rfl
      go_wp2_with fail
      go_ret2
      exact ⟨by rw [HF.out]; rfl, hB5⟩
     ·have HE := zgn (hall.out.succ hlt hlt' (by rw [HO.out]; simpa using hc))
      have hcn : (m != x.args[k]) = false := by rw [bne, hc]; rfl
      go_wp2_with fail; go_roundw
      case rel => exact ⟨k + 1, by omega, by go_num, HE, hM5⟩
      case measure => simp [intOf]; omega
   ·have HF := zgn (Tm.srt_yes HFIND.out HL.out (by omega) hall.out)
    go_wp2_with fail
    go_ret2
    exact ⟨by rw [HF.out]; rfl, hBM⟩
def Tm.tsrt (s : Sg) (t : Tm) : Option Int := if s.okB = true ∧ t.wf = true then t.srt s else none
theorem Tm.tsrt_no {s : Sg} {t : Tm} (h : s.okB = false) : t.tsrt s = none := by unfold Tm.tsrt; rw [if_neg]; rintro ⟨h1, _⟩; rw [h] at h1; simp at h1
theorem Tm.tsrt_bad {s : Sg} {t : Tm} (h : t.wf = false) : t.tsrt s = none := by unfold Tm.tsrt; rw [if_neg]; rintro ⟨_, h1⟩; rw [h] at h1; simp at h1
theorem Tm.tsrt_yes {s : Sg} {t : Tm} (h : s.okB = true) (h' : t.wf = true) : t.tsrt s = t.srt s := if_pos ⟨h, h'⟩
theorem zbh (s : Sg) (t : Tm) (vs us : List Value) (f f' : List Nat) (w : World) (hv : RdVs w s.cd vs f) (hx : RdVs w t.cd us f') :
  Calls Tryz.prog 132 #[.agg vs.toArray, .agg us.toArray] w (SrtOut (t.tsrt s) w) := by
 obtain ⟨a0, c0, f0, rfl, _, m0⟩ := Sg.open hv; obtain ⟨b1, e1, g1, rfl, _, t0, t1⟩ := Tm.open hx; go_enter Tryz.func132, Tryz.ntmps132; go_wp2_with fail; refine (zbJ s _ _ _ (by exact hv.below (((zgz _ _).alloc (zgo _) _).alloc (by simp) _))).mono ?_; rintro e w1 ⟨rfl, hb1⟩; obtain ⟨hxL, hyL, hzL, hBL⟩ := box2 (w := w) (wr := w1) (cs := #[.slice a0 s.Y.length c0]) (ds := #[.string t.name, .slice b1 t.K.length e1]) (T := 25) (U := 28) (zm hb1 (by simp)); have cx := hxL 0; have cy0 := hyL 0; have cy1 := hyL 1; simp only [zgd, zgb, zgc] at cx cy0 cy1; clear hxL hyL hb1
 cases h1 : s.okB
 ·have HF := zgn (Tm.tsrt_no (t := t) h1)
  clear h1; go_wp2_with fail
  go_ret2
  exact ⟨by rw [HF.out]; rfl, hBL⟩
 have H1 := zgn h1; clear h1; go_wp2_with fail; refine (zac t _ _ (TmR.mk t0 ⟨_, t1.below hBL⟩)).mono ?_; rintro e w2 ⟨rfl, hb2⟩; have cx := za cx hb2; have cy0 := za cy0 hb2; have cy1 := za cy1 hb2; have hB2 := hBL.trans (hb2.mono hBL.size); clear hb2
 cases h2 : t.wf
 ·have HF := zgn (Tm.tsrt_bad (s := s) h2)
  clear h2; go_wp2_with fail
  go_ret2
  exact ⟨by rw [HF.out]; rfl, hB2⟩
 have HF := zgn (Tm.tsrt_yes H1.out h2); clear h2; go_wp2_with fail; refine (zfm s _ t _ _ _ _ _ (zgo _) (hv.below hB2) (hx.below hB2)).mono ?_; rintro e w3 ⟨rfl, hb3⟩; go_wp2_with fail
 go_ret2
 exact ⟨by rw [HF.out]; rfl, hB2.trans (hb3.mono hB2.size)⟩
theorem Sg.okB_mem {s : Sg} (h : s.okB = true) {x : Sy} (hx : x ∈ s.Y) : x.okB = true := by
 obtain ⟨k, hk, rfl⟩ := List.getElem_of_mem hx; unfold Sg.okB at h; rw [zgm, List.all_eq_true] at h; have h1 := h.1 k (List.mem_range.2 hk)
 cases he : s.Y[k].okB with
 | true => rfl
 | false => rw [Sg.okAt_bad hk he] at h1; simp at h1
theorem Sg.find_okB {s : Sg} (h : s.okB = true) {n : ByteArray} {x : Sy} (hx : s.find n = some x) : x.okB = true := Sg.okB_mem h (List.mem_of_find?_eq_some hx)
theorem ze3 {n : Int} (h : srtB n = true) : 0 ≤ n := by simp [srtB] at h; omega
theorem Sy.args_pos {x : Sy} (h : x.okB = true) {k : Nat} (hk : k < x.args.length) : 0 ≤ x.args[k] := by
 simp only [Sy.okB, zgm, List.all_eq_true] at h; exact ze3 (h.2.2.2 _ (zgh hk))
theorem Sy.sort_pos {x : Sy} (h : x.okB = true) : 0 ≤ x.sort := by
 simp only [Sy.okB, zgm] at h; exact ze3 h.2.2.1
theorem Tm.srt_pos {s : Sg} (h : s.okB = true) {t : Tm} {m : Int} (hm : t.srt s = some m) : 0 ≤ m := by
 rw [Tm.srt_eq] at hm
 split at hm
 ·simp at hm
 ·rename_i x hx
  split at hm
  ·obtain rfl := zgA hm; exact Sy.sort_pos (Sg.find_okB h hx)
  ·simp at hm
def OfOut (o : Option Int) (w : World) (e : Ending) (w' : World) : Prop := e = .returned (.int .i64 (o.getD (-1))) ∧ Below w.heap.size w w'
theorem zbK (s : Sg) (hok : Hid (s.okB = true)) (n : Nat) : ∀ (t : Tm) (vs us : List Value) (f f' : List Nat) (w : World), t.size ≤ n → RdVs w s.cd vs f → RdVs w t.cd us f' →
  Calls Tryz.prog 140 #[.agg vs.toArray, .agg us.toArray] w (OfOut (t.srt s) w) := by
 induction n with
 | zero => intro t; have := t.size_pos; omega
 | succ n ih =>
  intro t vs us f f' w hn hv hx; have IH := zgn ih; clear ih; obtain ⟨a0, c0, f0, rfl, _, m0⟩ := Sg.open hv; obtain ⟨b1, e1, g1, rfl, _, t0, t1⟩ := Tm.open hx; have hlen := zao t1; go_enter Tryz.func140, Tryz.ntmps140; go_wp2_with fail; refine (zfl s t.name _ _ _ t0 (by exact hv.below (((zgz _ _).alloc (zgo _) _).alloc (by simp) _))).mono ?_; rintro e w1 ⟨x, ok, xs, xf, rfl, hxr, hfind, hb1⟩; obtain ⟨hxL, hyL, hzL, hBL⟩ := box2 (w := w) (wr := w1) (cs := #[.slice a0 s.Y.length c0]) (ds := #[.string t.name, .slice b1 t.K.length e1]) (T := 25) (U := 28) (zm hb1 (by simp)); obtain ⟨xa, xc, xg, rfl, _, q0, q1, q2⟩ := Sy.open hxr; have cx := hxL 0; have cy0 := hyL 0; have cy1 := hyL 1; simp only [zgd, zgb, zgc] at cx cy0 cy1; clear hxL hyL; have hlx := zao q1
  have hz0 : w.heap.size < w1.heap.size := by omega
  have hz1 : w.heap.size + 1 < w1.heap.size := by omega
  rcases hfind with ⟨rfl, hfind⟩ | ⟨rfl, hfind⟩
  rotate_left
  ·have HF := zgn (Tm.srt_none hfind)
   clear hfind; go_wp2_with fail; go_ret; exact ⟨by rw [HF.out]; rfl, zaq hBL (by omega)⟩
  have HFIND := zgn hfind; clear hfind
  by_cases hl : x.args.length = t.K.length
  rotate_left
  ·have HF := zgn (Tm.srt_len HFIND.out hl)
   have hne : ((x.args.length : Int) != (t.K.length : Int)) = true := by rw [bne_iff_ne]; omega
   clear hl; go_wp2_with fail; go_ret; exact ⟨by rw [HF.out]; rfl, zaq hBL (by omega)⟩
  have HL := zgn hl
  have hne : ((x.args.length : Int) != (t.K.length : Int)) = false := by rw [hl]; simp
  have hl1 : x.args.length ≤ t.K.length := by omega
  have hl2 : t.K.length ≤ x.args.length := by omega
  clear hl; have n0 := zt w1 #[.string x.name, .slice xa x.args.length xc, .int .i64 x.sort] 109; have hbw := zb w1 (.cells #[.string x.name, .slice xa x.args.length xc, .int .i64 x.sort] 109)
  have hsz : (w1.alloc (.cells #[.string x.name, .slice xa x.args.length xc, .int .i64 x.sort] 109)).heap.size = w1.heap.size + 1 := by simp
  obtain ⟨w2, hw2⟩ : ∃ w2, w2 = w1.alloc (.cells #[.string x.name, .slice xa x.args.length xc, .int .i64 x.sort] 109) := ⟨_, rfl⟩; go_wp2_with fail; rw [← hw2] at n0 hbw hsz ⊢; clear hw2; have d1 := n0 1; have d2 := n0 2; simp only [zgd, zgb, zgc] at d1 d2; clear n0; have cx := za cx hbw; have cy1 := za cy1 hbw; have q1 := q1.below hbw; have hB2 := hBL.trans (hbw.mono (by omega)); clear hbw
  go_loopw [7] (fun i wq => ∃ k : Nat, k ≤ t.K.length ∧ i = .int .i64 k ∧ Hid (SrtUpTo s t.K x.args k) ∧ Below w2.heap.size w2 wq) (fun i _ => t.K.length - (intOf i).toNat)
  case atStart => exact ⟨0, zgx _, rfl, zgn (fun j hj => by omega), zgz _ _⟩
  case round =>
   obtain ⟨k, hkl, rfl, hall, hM⟩ := hrel; have hszm := hM.size; have cxm := za cx hM; have cy1m := za cy1 hM; have d1m := za d1 hM; have d2m := za d2 hM; have hBM := hB2.trans (hM.mono (by omega))
   by_cases hlt : k < t.K.length
   ·have hlt' : k < x.args.length := by omega
    obtain ⟨b, off, rfl, hbs, _⟩ := zl t1 (by omega); have q1m := q1.below hM; obtain ⟨xb, xo, rfl, hxs, _⟩ := zl q1m (by omega); obtain ⟨ka, kc, kf, k0, k1, km0, km1, _⟩ := Tm.at (t1.below hBM) hlt; obtain ⟨ga, _⟩ := zan q1m hlt'; have hkn := Tm.size_kid hlt
    have hbz : b < wr.heap.size := by omega
    have hz2 : w1.heap.size < wr.heap.size := by omega
    have hz3 : w.heap.size < wr.heap.size := by omega
    have hpos := Sy.args_pos (Sg.find_okB hok.out HFIND.out) hlt'; go_wp2_with fail; have qk0 := cell_regrown k0; have qk1 := cell_regrown k1; have qcx := cell_regrown cxm; have qcy := cell_regrown cy1m; have qd := cell_regrown d1m; have qg := cell_regrown ga; refine wp_region_quiet_below (by kernel_rfl) (by kernel_rfl) ?_
    repeat (quiet_step (refine zgr (IH.out t.K[k] _ _ _ _ _ (by omega) ((hv.below hBM).below (below_regrown _ _ _)) ((Tm.rdv km0 km1).below (below_regrown _ _ _)))))
    refine wpQuiet_nil ?_; intro w5 hw5; obtain ⟨⟨dq, osq⟩, hw5⟩ := hw5; have hb5 : Below wr.heap.size wr w5 := hw5 ▸ below_regrown wr dq osq; clear hw5 qk0 qk1 qcx qcy qd qg; have hM5 := hM.trans (hb5.mono hszm); have hB5 := hBM.trans (hb5.mono hBM.size)
    cases ho : t.K[k].srt s with
    | none =>
     have HF := zgn (Tm.srt_kid HFIND.out hlt hlt' (by rw [ho]; simp)); clear ho
     have hcn : ((-1 : Int) != x.args[k]) = true := by rw [bne_iff_ne]; omega
     simp only [Option.getD_none]; go_wp2_with fail; go_ret; exact ⟨by rw [HF.out]; rfl, hB5⟩
    | some m =>
     have HO := zgn ho; clear ho; simp only [Option.getD_some]
     cases hc : (m == x.args[k])
     ·have HF := zgn (Tm.srt_kid HFIND.out hlt hlt' (by rw [HO.out]; simpa using hc))
      have hcn : (m != x.args[k]) = true := by rw [bne, hc]; rfl
      go_wp2_with fail; go_ret; exact ⟨by rw [HF.out]; rfl, hB5⟩
     ·have HE := zgn (hall.out.succ hlt hlt' (by rw [HO.out]; simpa using hc))
      have hcn : (m != x.args[k]) = false := by rw [bne, hc]; rfl
      go_wp2_with fail; go_roundw
      case rel => exact ⟨k + 1, by omega, by go_num, HE, hM5⟩
      case measure => simp [intOf]; omega
   ·have HF := zgn (Tm.srt_yes HFIND.out HL.out (by omega) hall.out)
    go_wp2_with fail; go_ret; exact ⟨by rw [HF.out]; rfl, hBM⟩
theorem zcE {α : Type} {f : α → List CD} {xs : List α} {x : α} (h : x ∈ xs) : wtV (f x) ≤ wtR (xs.map f) := by
 induction xs with
 | nil => simp at h
 | cons y ys ih =>
  simp only [List.map_cons, wtR]
  rcases zgk.1 h with rfl | h
  ·omega
  ·have := ih h; omega
theorem asz (w : World) (o : Obj) : (w.alloc o).heap.size = w.heap.size + 1 := by simp
theorem za9 (w : World) (o : Obj) (b j : Nat) (h : b < w.heap.size) : (w.alloc o).frozen? ⟨b, j, none⟩ = w.frozen? ⟨b, j, none⟩ := zk (heap_alloc_old w o h)
theorem zae {w : World} {b b' i j : Nat} {v u : Value} (h : w.cell? ⟨b, j, none⟩ = some u) (hne : b' ≠ b) : (w.setCell ⟨b', i, none⟩ v).cell? ⟨b, j, none⟩ = some u := (zgt w _ _ v (by simp [hne])).trans h
theorem zcP {w : World} {b i : Nat} {v u : Value} (h : w.cell? ⟨b, i, none⟩ = some u) : (w.setCell ⟨b, i, none⟩ v).cell? ⟨b, i, none⟩ = some v := by
 exact zgu w _ v h
/-- In the midst of copying the words: the box of the copy lies behind two others. -/
structure SigAt (s : Sg) (w wq : World) (B base : Nat) (a0 : Option Addr) (c0 k : Nat) (ov : Value) (fp : List Nat) : Prop where
 le : k ≤ s.Y.length
 cell : wq.cell? ⟨B, 0, none⟩ = some ov
 own : Own wq base 109 3 ov ((s.Y.take k).map Sy.cd) fp
 row : ov.ownBlock ≠ some B
 fresh : Fresh (B + 1) wq fp
 free : ∀ j, wq.frozen? ⟨B, j, none⟩ = false
 free1 : ∀ j, wq.frozen? ⟨w.heap.size + 1, j, none⟩ = false
 res : wq.cell? ⟨w.heap.size + 1, 0, none⟩ = some (.slice none 0 0)
 par : wq.cell? ⟨w.heap.size, 0, none⟩ = some (.slice a0 s.Y.length c0)
 size : B + 1 ≤ wq.heap.size
 lo : w.heap.size + 1 < base
 lob : base ≤ B + 1
 bel : Below w.heap.size w wq
theorem zfM (s : Sg) (vs : List Value) (f : List Nat) (w : World) (hbig : wtV s.cd ≤ 1048576) (hv : RdVs w s.cd vs f) :
  Calls Tryz.prog 102 #[.agg vs.toArray] w (zbg s.cd w) := by
 obtain ⟨a0, c0, f0, rfl, _, m0⟩ := Sg.open hv
 have hw : s.Y.length + wtR (s.Y.map Sy.cd) ≤ 1048576 := by rw [Sg.cd, zaj] at hbig; exact hbig
 have HW := zgn (fun k (hk : k < s.Y.length) => show s.Y[k].args.length ≤ 1048576 by
  have h1 := zcE (f := Sy.cd) (xs := s.Y) (zgh hk)
  have h2 : s.Y[k].args.length ≤ wtV s.Y[k].cd := by simp only [Sy.cd, zI, zaj]; omega
  omega)
 have hlen : s.Y.length ≤ 1048576 := by omega
 clear hw hbig; go_enter Tryz.func102, Tryz.ntmps102; go_wp2_with fail
 go_loopw [9] (fun i wq => ∃ (k : Nat) (ov : Value) (fp : List Nat), i = .int .i64 k ∧ SigAt s w wq (w.heap.size + 1 + 1) (w.heap.size + 1 + 1 + 1) a0 c0 k ov fp) (fun i _ => s.Y.length - (intOf i).toNat)
 case atStart =>
  have e1 := asz w (.cells #[.slice a0 s.Y.length c0] 25); have e2 := asz (w.alloc (.cells #[.slice a0 s.Y.length c0] 25)) (.cells #[.slice none 0 0] 25)
  refine ⟨0, .slice none 0 0, [], rfl, zgx _, ?_, Own.nil _ _ _ _, by simp [Value.ownBlock], Fresh.nil _ _, fun j => ?_, fun j => ?_, ?_, ?_, by simp, by omega, by omega, ((zb _ _).alloc (by simp) _).alloc (by simp; try omega) _⟩
  ·have := zt ((w.alloc (.cells #[.slice a0 s.Y.length c0] 25)).alloc (.cells #[.slice none 0 0] 25)) #[.slice none 0 0] 25 0
   rw [e2, e1] at this; exact this
  ·have := zR ((w.alloc (.cells #[.slice a0 s.Y.length c0] 25)).alloc (.cells #[.slice none 0 0] 25)) #[.slice none 0 0] 25 j
   rw [e2, e1] at this; exact this
  ·have := zR (w.alloc (.cells #[.slice a0 s.Y.length c0] 25)) #[.slice none 0 0] 25 j
   rw [e1] at this; exact (za9 _ _ _ _ (by simp)).trans this
  ·have := zt (w.alloc (.cells #[.slice a0 s.Y.length c0] 25)) #[.slice none 0 0] 25 0
   rw [e1] at this; exact (zaQ _ _ _ _ (by simp)).trans this
  ·have := zt w #[.slice a0 s.Y.length c0] 25 0
   exact (zaQ _ _ _ _ (by simp; try omega)).trans ((zaQ _ _ _ _ (by simp)).trans this)
 case round =>
  obtain ⟨k, ov, fp, rfl, st⟩ := hrel; have hz := st.size
  have hz0 : w.heap.size + 1 + 1 < wr.heap.size := by omega
  by_cases hlt : k < s.Y.length
  ·obtain ⟨b, off, rfl, hbs, _⟩ := zl m0 (by omega)
   obtain ⟨ea, ec, ef, d0, d1, d2, em0, em1, em2, _⟩ := Sy.at (m0.below st.bel) hlt
   have hbz : b < wr.heap.size := by omega
   go_wp2_with fail; refine (zcA s.Y[k].args _ _ _ (HW.out k hlt) (by exact em1.below (zb _ _))).mono ?_; rintro e w2 ⟨kv, fk, rfl, hrk, hfk, hb2⟩; have hbx := zm (n := wr.heap.size + 1) hb2 (by simp); obtain ⟨hx, hzx, hbw⟩ := box1 (w := wr) (wr := w2) (cs := #[.string s.Y[k].name, .slice ea s.Y[k].args.length ec, .int .i64 s.Y[k].sort]) (T := 109) hbx; have hxf := fun j => zdY hbx j; have hfk1 : Fresh (wr.heap.size + 1) w2 fk := hfk.mono (by simp); clear hb2 hbx hfk; obtain ⟨ka, kc, rfl, hk1, hk2⟩ := zg hrk; have hlo := st.lo; have hlob := st.lob; have c2 := za st.cell hbw; have o2 := st.own.below hbw; have fr2 := st.fresh.below hbw
   -- behind the first store
   have hxs := zw (b := wr.heap.size) [(1, .slice ka s.Y[k].args.length kc)] hx (by simp); have hcs := zae (i := 1) (v := .slice ka s.Y[k].args.length kc) c2 (b' := wr.heap.size) (by omega); obtain ⟨x0, x1, x2⟩ := yQ3 hxs; have xf := hxf 1; have y1 := hx 1; simp only [zi, zag, zfZ, zga, zgd, zgb, zgc] at x0 x1 x2 y1; have hne : ∀ q, q ≠ wr.heap.size → (w2.setCell ⟨wr.heap.size, 1, none⟩ (.slice ka s.Y[k].args.length kc)).heap[q]? = w2.heap[q]? := fun q hq => Below.heap_setCell _ _ _ _ hq; have o3 := o2.same (w' := w2.setCell ⟨wr.heap.size, 1, none⟩ (.slice ka s.Y[k].args.length kc)) (fun q hq => hne q (by have := st.fresh.lt q hq; omega)) (fun q hq => hne q (by have := (st.own.block hq).2; omega)); have hr3 := hrk.same (w' := w2.setCell ⟨wr.heap.size, 1, none⟩ (.slice ka s.Y[k].args.length kc)) _ (fun q hq => hne q (by have := (hfk1.2 q hq).1; omega)); have hff2 : Fresh (w.heap.size + 1 + 1 + 1) w2 (fp ++ fk) := Fresh.app fr2 (fun q hq => by have := st.fresh.lt q hq; omega) (by omega) hfk1
   have hff3 := hff2.same (w' := w2.setCell ⟨wr.heap.size, 1, none⟩ (.slice ka s.Y[k].args.length kc)) (fun q hq => hne q (by
    rcases zgg.1 hq with h | h
    ·have := st.fresh.lt q h; omega
    ·have := (hfk1.2 q h).1; omega))
   have f3 := zaR (b := w.heap.size + 1 + 1) (w := w2) (fun j => (hbw.frozen (p := ⟨w.heap.size + 1 + 1, j, none⟩) hz0).trans (st.free j)) ⟨wr.heap.size, 1, none⟩ (.slice ka s.Y[k].args.length kc); have g3 := zaR (b := w.heap.size + 1) (w := w2) (fun j => (hbw.frozen (p := ⟨w.heap.size + 1, j, none⟩) (show w.heap.size + 1 < wr.heap.size by omega)).trans (st.free1 j)) ⟨wr.heap.size, 1, none⟩ (.slice ka s.Y[k].args.length kc); have r3 := zae (i := 1) (v := .slice ka s.Y[k].args.length kc) (za st.res hbw) (b' := wr.heap.size) (by omega); have p3 := zae (i := 1) (v := .slice ka s.Y[k].args.length kc) (za st.par hbw) (b' := wr.heap.size) (by omega)
   have hB3 := (st.bel.trans (hbw.mono (by omega))).setCell (p := ⟨wr.heap.size, 1, none⟩) (by simp; try omega) (.slice ka s.Y[k].args.length kc)
   have hs3 : (w2.setCell ⟨wr.heap.size, 1, none⟩ (.slice ka s.Y[k].args.length kc)).heap.size = w2.heap.size := by simp
   have hl : ((s.Y.take k).map Sy.cd).length ≤ s.Y.length := by simp; try omega
   have ALB := zb (w2.setCell ⟨wr.heap.size, 1, none⟩ (.slice ka s.Y[k].args.length kc)) (.cells #[.string s.Y[k].name, .slice ka s.Y[k].args.length kc, .int .i64 s.Y[k].sort] 109); have o4 := o3.below ALB; have hr4 := hr3.below ALB; have hff4 := hff3.below ALB; have c4 := za hcs ALB; have r4 := za r3 ALB; have p4 := za p3 ALB; have hB4 := hB3.alloc (by omega) (.cells #[.string s.Y[k].name, .slice ka s.Y[k].args.length kc, .int .i64 s.Y[k].sort] 109); have hnk := hfk1.2; clear o2 o3 hr3 hff2 hff3 hxs hx hxf fr2 hne hcs r3 p3 ALB hrk; go_wp2_with (at_builtin; refine zz zbm rfl _ _ rfl (w.heap.size + 1 + 1 + 1) _ _ _ rfl o4 ⟨w2.heap.size, 0, none⟩ 1 1 [s.Y[k].cd] [.string s.Y[k].name, .slice ka s.Y[k].args.length kc, .int .i64 s.Y[k].sort] fk rfl rfl ?rd ?k ?cells ?na ?bytes ?len ?base ?next)
   case rd => simpa using Sy.close (x := s.Y[k]) em0 hr4 em2
   case k => simp [Sy.cd_len]
   case cells =>
    intro j u hj; have := zq (w2.setCell ⟨wr.heap.size, 1, none⟩ (.slice ka s.Y[k].args.length kc)) [.string s.Y[k].name, .slice ka s.Y[k].args.length kc, .int .i64 s.Y[k].sort] 109 j u hj; rw [hs3] at this; exact this
   case na => exact fun q hq e => by have := (hnk q hq).1; have := (st.own.block e).2; omega
   case bytes => omega
   case len => omega
   case base => (simp; try omega)
   case next =>
    intro v' w5 hown5 hg hv' hs5; obtain ⟨va, vn, vc, rfl⟩ := hown5.form'; have hrow : ov.ownBlock ≠ some (w.heap.size + 1 + 1) := st.row; have hrow1 : ov.ownBlock ≠ some (w.heap.size + 1) := st.own.row_ne (by omega); have hrow0 : ov.ownBlock ≠ some w.heap.size := st.own.row_ne (by omega); have c5 := zr hg c4 hrow; have r5 := zr hg r4 hrow1; have p5 := zr hg p4 hrow0
    have f5 : ∀ j, w5.frozen? ⟨w.heap.size + 1 + 1, j, none⟩ = false := fun j => zH hg (by simp; try omega) ((za9 _ _ _ _ (by rw [hs3]; omega)).trans (f3 j)) hrow
    have g5 : ∀ j, w5.frozen? ⟨w.heap.size + 1, j, none⟩ = false := fun j => zH hg (by simp; try omega) ((za9 _ _ _ _ (by rw [hs3]; omega)).trans (g3 j)) hrow1
    have hff5 := hff4.same hs5
    have hB5 := zo hB4 hg (by simp; try omega) (fun q hq => by have := (st.own.block hq).1; omega)
    have hz5 := hg.size
    have hnrow : (Value.slice va vn vc).ownBlock ≠ some (w.heap.size + 1 + 1) := fun e => by
     rcases hv' _ e with h | h
     ·exact st.row h
     ·simp at h; omega
    rw [asz, hs3] at hz5; have f50 := f5 0; have hsB : SameOn (fp ++ fk) w5 (w5.setCell ⟨w.heap.size + 1 + 1, 0, none⟩ (.slice va vn vc)) := fun q hq => Below.heap_setCell _ _ _ _ (by have := (hff5.2 q hq).1; simp only; omega); have hown6 := hown5.same hsB (fun q hq => Below.heap_setCell _ _ _ _ (by rintro rfl; exact hnrow hq)); have hff6 := hff5.same hsB
    have hfin : SigAt s w (w5.setCell ⟨w.heap.size + 1 + 1, 0, none⟩ (.slice va vn vc)) (w.heap.size + 1 + 1) (w.heap.size + 1 + 1 + 1) (some ⟨b, off, none⟩) c0 (k + 1) (.slice va vn vc) (fp ++ fk) := by
     refine ⟨by omega, zcP c5, ?_, hnrow, hff6, fun j => zaR f5 _ _ j, fun j => zaR g5 _ _ j, zae r5 (by omega), zae p5 (by omega), by simp; try omega, hlo, hlob, hB5.setCell (by simp; try omega) _⟩
     rw [zgf hlt, zgj]; simpa using hown6
    clear hown6 hff6 hown5 hff5 hB5 hg hs5 o4 hr4 hff4 c4 r4 hB4 hB3 hsB; go_wp2_with fail; go_roundw
    case rel => exact ⟨k + 1, .slice va vn vc, fp ++ fk, by go_num, hfin⟩
    case measure => simp [intOf]; omega
  ·have he : s.Y.take k = s.Y := zgq (by omega)
   have hown := st.own; have hlo := st.lo; have hlob := st.lob; rw [he] at hown; clear he; obtain ⟨oa, on, oc, rfl⟩ := hown.form'; obtain ⟨fp', h1, h2, _⟩ := hown.fresh (st.fresh.mono hlob); obtain ⟨_, _, he, h3, h4⟩ := zg h1
   cases he
   have hc := st.cell; have hr := st.res; have hf := st.free1 0; have hbel := st.bel; have hp := st.par; go_wp2_with fail; refine bodyPost_ret (v := .agg #[.slice oa s.Y.length oc]) (by simp [results, Tryz.results102, go_sem, zgu _ _ _ hr]) rfl ?_; have hne : ∀ q, q ≠ w.heap.size + 1 → (wr.setCell ⟨w.heap.size + 1, 0, none⟩ (.slice oa s.Y.length oc)).heap[q]? = wr.heap[q]? := fun q hq => Below.heap_setCell _ _ _ _ hq; have hsm : SameOn fp' wr (wr.setCell ⟨w.heap.size + 1, 0, none⟩ (.slice oa s.Y.length oc)) := fun q hq => hne q (by have := (h2.2 q hq).1; omega); exact ⟨[.slice oa s.Y.length oc], fp', rfl, Sg.close (x := s) (h1.same _ hsm), (h2.same hsm).mono (by omega), hbel.setCell (by simp) _⟩
theorem zb3 (s : Sg) (vs : List Value) (f : List Nat) (w : World) (hbig : wtV s.cd ≤ 1048576) (hv : RdVs w s.cd vs f) :
  Calls Tryz.prog 103 #[.agg vs.toArray] w (zbg s.cd w) := by
 obtain ⟨a0, c0, f0, rfl, _, m0⟩ := Sg.open hv
 have hw : s.Y.length + wtR (s.Y.map Sy.cd) ≤ 1048576 := by rw [Sg.cd, zaj] at hbig; exact hbig
 have HW := zgn (fun k (hk : k < s.Y.length) => show s.Y[k].args.length ≤ 1048576 by
  have h1 := zcE (f := Sy.cd) (xs := s.Y) (zgh hk)
  have h2 : s.Y[k].args.length ≤ wtV s.Y[k].cd := by simp only [Sy.cd, zI, zaj]; omega
  omega)
 have hlen : s.Y.length ≤ 1048576 := by omega
 clear hw hbig; go_enter Tryz.func103, Tryz.ntmps103; go_wp2_with fail
 go_loopw [4] (fun i wq => ∃ (k : Nat) (ov : Value) (fp : List Nat), i = .int .i64 k ∧ SigAt s w wq (w.heap.size + 1 + 1 + 1) (w.heap.size + 1 + 1) a0 c0 k ov fp) (fun i _ => s.Y.length - (intOf i).toNat)
 case atStart =>
  have e1 := asz w (.cells #[.slice a0 s.Y.length c0] 25); have e2 := asz (w.alloc (.cells #[.slice a0 s.Y.length c0] 25)) (.cells #[.slice none 0 0] 25); have e3 := asz ((w.alloc (.cells #[.slice a0 s.Y.length c0] 25)).alloc (.cells #[.slice none 0 0] 25)) (.cells #[] 109)
  refine ⟨0, .slice (some ⟨w.heap.size + 1 + 1, 0, none⟩) 0 0, [], rfl, zgx _, ?_, ?_, by simp [Value.ownBlock], Fresh.nil _ _, fun j => ?_, fun j => ?_, ?_, ?_, by simp, by omega, by omega, (((zb _ _).alloc (by simp) _).alloc (by simp; try omega) _).alloc (by simp; try omega) _⟩
  ·have := zt (((w.alloc (.cells #[.slice a0 s.Y.length c0] 25)).alloc (.cells #[.slice none 0 0] 25)).alloc (.cells #[] 109)) #[.slice (some ⟨w.heap.size + 1 + 1, 0, none⟩) 0 0] 25 0
   rw [e3, e2, e1] at this; exact this
  ·have := Own.empty ((w.alloc (.cells #[.slice a0 s.Y.length c0] 25)).alloc (.cells #[.slice none 0 0] 25)) (w.heap.size + 1 + 1) 109 3 (by rw [e2, e1]; omega)
   rw [e2, e1] at this; exact this.below (zb _ _)
  ·have := zR (((w.alloc (.cells #[.slice a0 s.Y.length c0] 25)).alloc (.cells #[.slice none 0 0] 25)).alloc (.cells #[] 109)) #[.slice (some ⟨w.heap.size + 1 + 1, 0, none⟩) 0 0] 25 j
   rw [e3, e2, e1] at this; exact this
  ·have := zR (w.alloc (.cells #[.slice a0 s.Y.length c0] 25)) #[.slice none 0 0] 25 j
   rw [e1] at this; exact (za9 _ _ _ _ (by simp; try omega)).trans ((za9 _ _ _ _ (by simp)).trans this)
  ·have := zt (w.alloc (.cells #[.slice a0 s.Y.length c0] 25)) #[.slice none 0 0] 25 0
   rw [e1] at this; exact (zaQ _ _ _ _ (by simp; try omega)).trans ((zaQ _ _ _ _ (by simp)).trans this)
  ·have := zt w #[.slice a0 s.Y.length c0] 25 0
   exact (zaQ _ _ _ _ (by simp; try omega)).trans ((zaQ _ _ _ _ (by simp; try omega)).trans ((zaQ _ _ _ _ (by simp)).trans this))
 case round =>
  obtain ⟨k, ov, fp, rfl, st⟩ := hrel; have hz := st.size
  have hz0 : w.heap.size + 1 + 1 + 1 < wr.heap.size := by omega
  have hp := st.par
  by_cases hlt : k < s.Y.length
  ·obtain ⟨b, off, rfl, hbs, _⟩ := zl m0 (by omega)
   obtain ⟨ea, ec, ef, d0, d1, d2, em0, em1, em2, _⟩ := Sy.at (m0.below st.bel) hlt
   have hbz : b < wr.heap.size := by omega
   have hwk := HW.out k hlt; have hW1 : (wr.alloc (.cells #[.string s.Y[k].name, .slice ea s.Y[k].args.length ec, .int .i64 s.Y[k].sort] 109)).heap.size = wr.heap.size + 1 := asz _ _; go_wp2_with (at_builtin; refine zar zU rfl _ _ rfl (wr.heap.size + 1) (.slice (some ⟨wr.heap.size + 1, 0, none⟩) 0 0) [] [] rfl (by have := Own.empty (wr.alloc (.cells #[.string s.Y[k].name, .slice ea s.Y[k].args.length ec, .int .i64 s.Y[k].sort] 109)) (wr.heap.size + 1) 3 1 (by simp); rw [hW1] at this; exact this) (s.Y[k].args.map zv) (.slice ea s.Y[k].args.length ec) ef rfl (by exact (em1.below (zb _ _)).below (zb _ _)) ?k ?na ?bytes ?len ?base ?next)
   case k => simp only [List.mem_map]; rintro e ⟨t, _, rfl⟩; exact zL t
   case na => intro q hq h; have h1 := em1.lt _ q hq; simp [Value.ownBlock] at h; omega
   case bytes => (simp; try omega)
   case len => (simp; try omega)
   case base => (simp; try omega)
   case next =>
   intro kv w2 nfp hnf hown4 hg hv4 hs4
   have hb2 : Below (wr.alloc (.cells #[.string s.Y[k].name, .slice ea s.Y[k].args.length ec, .int .i64 s.Y[k].sort] 109)).heap.size (wr.alloc (.cells #[.string s.Y[k].name, .slice ea s.Y[k].args.length ec, .int .i64 s.Y[k].sort] 109)) w2 :=
    zo (zb _ (.cells #[] 3)) hg (by simp) (fun q hq => by simp [Value.ownBlock] at hq; rw [hW1]; omega)
   try simp only [List.nil_append] at hown4
   obtain rfl : nfp = [] := by obtain ⟨ys, _, h, _⟩ := hown4; exact zQ s.Y[k].args _ _ _ h
   obtain ⟨fk, hrk, hfk0, _⟩ := hown4.fresh (Fresh.nil _ _)
   have hfk : Fresh (wr.alloc (.cells #[.string s.Y[k].name, .slice ea s.Y[k].args.length ec, .int .i64 s.Y[k].sort] 109)).heap.size w2 fk := by rw [hW1]; exact hfk0
   clear hown4 hg hv4 hs4 hfk0 hnf; have hbx := zm (n := wr.heap.size + 1) hb2 (by simp); obtain ⟨hx, hzx, hbw⟩ := box1 (w := wr) (wr := w2) (cs := #[.string s.Y[k].name, .slice ea s.Y[k].args.length ec, .int .i64 s.Y[k].sort]) (T := 109) hbx; have hxf := fun j => zdY hbx j; have hfk1 : Fresh (wr.heap.size + 1) w2 fk := hfk.mono (by simp); clear hb2 hbx hfk; obtain ⟨ka, kc, rfl, hk1, hk2⟩ := zg hrk; have hlo := st.lo; have hlob := st.lob; have c2 := za st.cell hbw; have o2 := st.own.below hbw; have fr2 := st.fresh.below hbw
   -- behind the first store
   have hxs := zw (b := wr.heap.size) [(1, .slice ka s.Y[k].args.length kc)] hx (by simp); have hcs := zae (i := 1) (v := .slice ka s.Y[k].args.length kc) c2 (b' := wr.heap.size) (by omega); obtain ⟨x0, x1, x2⟩ := yQ3 hxs; have xf := hxf 1; have y1 := hx 1; simp only [zi, zag, zfZ, zga, zgd, zgb, zgc] at x0 x1 x2 y1; have hne : ∀ q, q ≠ wr.heap.size → (w2.setCell ⟨wr.heap.size, 1, none⟩ (.slice ka s.Y[k].args.length kc)).heap[q]? = w2.heap[q]? := fun q hq => Below.heap_setCell _ _ _ _ hq; have o3 := o2.same (w' := w2.setCell ⟨wr.heap.size, 1, none⟩ (.slice ka s.Y[k].args.length kc)) (fun q hq => hne q (by have := st.fresh.lt q hq; omega)) (fun q hq => hne q (by have := (st.own.block hq).2; omega)); have hr3 := hrk.same (w' := w2.setCell ⟨wr.heap.size, 1, none⟩ (.slice ka s.Y[k].args.length kc)) _ (fun q hq => hne q (by have := (hfk1.2 q hq).1; omega)); have hff2 : Fresh (w.heap.size + 1 + 1 + 1 + 1) w2 (fp ++ fk) := Fresh.app fr2 (fun q hq => by have := st.fresh.lt q hq; omega) (by omega) hfk1
   have hff3 := hff2.same (w' := w2.setCell ⟨wr.heap.size, 1, none⟩ (.slice ka s.Y[k].args.length kc)) (fun q hq => hne q (by
    rcases zgg.1 hq with h | h
    ·have := st.fresh.lt q h; omega
    ·have := (hfk1.2 q h).1; omega))
   have f3 := zaR (b := w.heap.size + 1 + 1 + 1) (w := w2) (fun j => (hbw.frozen (p := ⟨w.heap.size + 1 + 1 + 1, j, none⟩) hz0).trans (st.free j)) ⟨wr.heap.size, 1, none⟩ (.slice ka s.Y[k].args.length kc); have g3 := zaR (b := w.heap.size + 1) (w := w2) (fun j => (hbw.frozen (p := ⟨w.heap.size + 1, j, none⟩) (show w.heap.size + 1 < wr.heap.size by omega)).trans (st.free1 j)) ⟨wr.heap.size, 1, none⟩ (.slice ka s.Y[k].args.length kc); have r3 := zae (i := 1) (v := .slice ka s.Y[k].args.length kc) (za st.res hbw) (b' := wr.heap.size) (by omega); have p3 := zae (i := 1) (v := .slice ka s.Y[k].args.length kc) (za st.par hbw) (b' := wr.heap.size) (by omega)
   have hB3 := (st.bel.trans (hbw.mono (by omega))).setCell (p := ⟨wr.heap.size, 1, none⟩) (by simp; try omega) (.slice ka s.Y[k].args.length kc)
   have hs3 : (w2.setCell ⟨wr.heap.size, 1, none⟩ (.slice ka s.Y[k].args.length kc)).heap.size = w2.heap.size := by simp
   have hl : ((s.Y.take k).map Sy.cd).length ≤ s.Y.length := by simp; try omega
   have ALB := zb (w2.setCell ⟨wr.heap.size, 1, none⟩ (.slice ka s.Y[k].args.length kc)) (.cells #[.string s.Y[k].name, .slice ka s.Y[k].args.length kc, .int .i64 s.Y[k].sort] 109); have o4 := o3.below ALB; have hr4 := hr3.below ALB; have hff4 := hff3.below ALB; have c4 := za hcs ALB; have r4 := za r3 ALB; have p4 := za p3 ALB; have hB4 := hB3.alloc (by omega) (.cells #[.string s.Y[k].name, .slice ka s.Y[k].args.length kc, .int .i64 s.Y[k].sort] 109); have hnk := hfk1.2; clear o2 o3 hr3 hff2 hff3 hxs hx hxf fr2 hne hcs r3 p3 ALB hrk; go_wp2_with (at_builtin; refine zz zbm rfl _ _ rfl (w.heap.size + 1 + 1) _ _ _ rfl o4 ⟨w2.heap.size, 0, none⟩ 1 1 [s.Y[k].cd] [.string s.Y[k].name, .slice ka s.Y[k].args.length kc, .int .i64 s.Y[k].sort] fk rfl rfl ?rd ?k ?cells ?na ?bytes ?len ?base ?next)
   case rd => simpa using Sy.close (x := s.Y[k]) em0 hr4 em2
   case k => simp [Sy.cd_len]
   case cells =>
    intro j u hj; have := zq (w2.setCell ⟨wr.heap.size, 1, none⟩ (.slice ka s.Y[k].args.length kc)) [.string s.Y[k].name, .slice ka s.Y[k].args.length kc, .int .i64 s.Y[k].sort] 109 j u hj; rw [hs3] at this; exact this
   case na => exact fun q hq e => by have := (hnk q hq).1; have := (st.own.block e).2; omega
   case bytes => omega
   case len => omega
   case base => (simp; try omega)
   case next =>
    intro v' w5 hown5 hg hv' hs5; obtain ⟨va, vn, vc, rfl⟩ := hown5.form'; have hrow : ov.ownBlock ≠ some (w.heap.size + 1 + 1 + 1) := st.row; have hrow1 : ov.ownBlock ≠ some (w.heap.size + 1) := st.own.row_ne (by omega); have hrow0 : ov.ownBlock ≠ some w.heap.size := st.own.row_ne (by omega); have c5 := zr hg c4 hrow; have r5 := zr hg r4 hrow1; have p5 := zr hg p4 hrow0
    have f5 : ∀ j, w5.frozen? ⟨w.heap.size + 1 + 1 + 1, j, none⟩ = false := fun j => zH hg (by simp; try omega) ((za9 _ _ _ _ (by rw [hs3]; omega)).trans (f3 j)) hrow
    have g5 : ∀ j, w5.frozen? ⟨w.heap.size + 1, j, none⟩ = false := fun j => zH hg (by simp; try omega) ((za9 _ _ _ _ (by rw [hs3]; omega)).trans (g3 j)) hrow1
    have hff5 := hff4.same hs5
    have hB5 := zo hB4 hg (by simp; try omega) (fun q hq => by have := (st.own.block hq).1; omega)
    have hz5 := hg.size
    have hnrow : (Value.slice va vn vc).ownBlock ≠ some (w.heap.size + 1 + 1 + 1) := fun e => by
     rcases hv' _ e with h | h
     ·exact st.row h
     ·simp at h; omega
    rw [asz, hs3] at hz5; have f50 := f5 0; have hsB : SameOn (fp ++ fk) w5 (w5.setCell ⟨w.heap.size + 1 + 1 + 1, 0, none⟩ (.slice va vn vc)) := fun q hq => Below.heap_setCell _ _ _ _ (by have := (hff5.2 q hq).1; simp only; omega); have hown6 := hown5.same hsB (fun q hq => Below.heap_setCell _ _ _ _ (by rintro rfl; exact hnrow hq)); have hff6 := hff5.same hsB
    have hfin : SigAt s w (w5.setCell ⟨w.heap.size + 1 + 1 + 1, 0, none⟩ (.slice va vn vc)) (w.heap.size + 1 + 1 + 1) (w.heap.size + 1 + 1) (some ⟨b, off, none⟩) c0 (k + 1) (.slice va vn vc) (fp ++ fk) := by
     refine ⟨by omega, zcP c5, ?_, hnrow, hff6, fun j => zaR f5 _ _ j, fun j => zaR g5 _ _ j, zae r5 (by omega), zae p5 (by omega), by simp; try omega, hlo, hlob, hB5.setCell (by simp; try omega) _⟩
     rw [zgf hlt, zgj]; simpa using hown6
    clear hown6 hff6 hown5 hff5 hB5 hg hs5 o4 hr4 hff4 c4 r4 hB4 hB3 hsB; go_wp2_with fail; go_roundw
    case rel => exact ⟨k + 1, .slice va vn vc, fp ++ fk, by go_num, hfin⟩
    case measure => simp [intOf]; omega
  ·have he : s.Y.take k = s.Y := zgq (by omega)
   have hown := st.own; have hlo := st.lo; have hlob := st.lob; rw [he] at hown; clear he; obtain ⟨oa, on, oc, rfl⟩ := hown.form'; obtain ⟨fp', h1, h2, _⟩ := hown.fresh (st.fresh.mono hlob); obtain ⟨_, _, he, h3, h4⟩ := zg h1
   cases he
   have hc := st.cell; have hr := st.res; have hf := st.free1 0; have hbel := st.bel; have hp := st.par; go_wp2_with fail; refine bodyPost_ret (v := .agg #[.slice oa s.Y.length oc]) (by simp [results, Tryz.results103, go_sem, zgu _ _ _ hr]) rfl ?_; have hne : ∀ q, q ≠ w.heap.size + 1 → (wr.setCell ⟨w.heap.size + 1, 0, none⟩ (.slice oa s.Y.length oc)).heap[q]? = wr.heap[q]? := fun q hq => Below.heap_setCell _ _ _ _ hq; have hsm : SameOn fp' wr (wr.setCell ⟨w.heap.size + 1, 0, none⟩ (.slice oa s.Y.length oc)) := fun q hq => hne q (by have := (h2.2 q hq).1; omega); exact ⟨[.slice oa s.Y.length oc], fp', rfl, Sg.close (x := s) (h1.same _ hsm), (h2.same hsm).mono (by omega), hbel.setCell (by simp) _⟩
end Go.Proofs.YtbfinjiledfpcaaGreat
end
