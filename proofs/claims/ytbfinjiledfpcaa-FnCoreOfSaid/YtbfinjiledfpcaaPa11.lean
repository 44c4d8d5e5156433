/- Parts of the proof: Sig2. -/
import Derived.IntWalk
import Derived.Test.YtbfinjiledfpcaaPa9
section
namespace Go.Proofs.Ytbfinjiledfpcaa
open Go Go.RowKit
set_option linter.unusedVariables false
set_option linter.unusedSimpArgs false
set_option maxRecDepth 100000
set_option maxHeartbeats 16000000
theorem za3 {w : World} {B : Nat} {wr : World} {cs : Array Value} {T : Nat} (hb : Below B w wr) (hz : B ≤ wr.heap.size) : Below B w (wr.alloc (.cells cs T)) := hb.alloc hz _
theorem geq_run (t : TypeId) (a b : ByteArray) : binOp .geq t (.string a) (.string b) = pure (.bool (!nmLt a b)) := by simp [binOp, Op.stringOp, nmLt]
theorem Sg.okAt_cmp {s : Sg} {k : Nat} (hk : k + 1 < s.Y.length) (h : nmLt s.Y[k].name s.Y[k + 1].name = false) : s.okAt (k + 1) = false := by
 simp [Sg.okAt, zdJ hk, zdJ (show k < s.Y.length by omega), h]
theorem Sy.okB_name {x : Sy} (h : zao x.name = false) : x.okB = false := by simp [Sy.okB, h]
theorem Sy.okB_len {x : Sy} (h : ¬ x.args.length ≤ 2) : x.okB = false := by simp [Sy.okB, h]
theorem Sy.okB_sort {x : Sy} (h : srtB x.sort = false) : x.okB = false := by simp [Sy.okB, h]
theorem Sy.okB_args {x : Sy} (h : x.args.all srtB = false) : x.okB = false := by simp only [Sy.okB, h, Bool.and_false]
theorem Sy.okB_yes {x : Sy} (h1 : zao x.name = true) (h2 : x.args.length ≤ 2) (h3 : srtB x.sort = true) (h4 : x.args.all srtB = true) : x.okB = true := by simp only [Sy.okB, h1, decide_eq_true h2, h3, h4]; rfl
theorem zbK (x : Sg) (vs : List Value) (f : List Nat) (w : World) (hv : RdVs w x.cd vs f) :
  Calls Try.prog 65 #[.agg vs.toArray] w fun e w' => e = .returned (.bool x.okB) ∧ Below w.heap.size w w' := by
 obtain ⟨a0, c0, f0, rfl, _, m0⟩ := Sg.open hv; have hlen := zaG m0; go_enter Try.func65, Try.ntmps65; go_wp2_with fail
 go_loopw [3] (fun i wq => ∃ k : Nat, k ≤ x.Y.length ∧ i = .int .i64 k ∧ Hid (∀ j, j < k → x.okAt j = true) ∧ Below (w.heap.size + 1) (w.alloc (.cells #[.slice a0 x.Y.length c0] 41)) wq) (fun i _ => x.Y.length - (intOf i).toNat)
 case atStart => exact ⟨0, zdR _, rfl, zdH (fun j h => by omega), zdT _ _⟩
 case round =>
  obtain ⟨k, hkl, rfl, hall, hL⟩ := hrel; obtain ⟨hxL, hzL, hBL⟩ := box1 hL; have cx := hxL 0; simp only [zdx, zdv, zdw] at cx
  by_cases hlt : k < x.Y.length
  ·obtain ⟨b, off, rfl, hbs, _⟩ := zo m0 (by omega)
   have hbz2 : b < wr.heap.size := by omega
   have hz0 : w.heap.size < wr.heap.size := by omega
   obtain ⟨ea1, ec1, ef1, d0, d1, d2, em0, em1, em2, _⟩ := Sy.at (m0.below hBL) hlt; have hlen2 := zaG em1; have hBX := za3 (cs := #[.string x.Y[k].name, .slice ea1 x.Y[k].args.length ec1, .int .i64 x.Y[k].sort]) (T := 87) hBL (by omega); have hLX := za3 (cs := #[.string x.Y[k].name, .slice ea1 x.Y[k].args.length ec1, .int .i64 x.Y[k].sort]) (T := 87) hL (by omega); have hbox := zD wr #[.string x.Y[k].name, .slice ea1 x.Y[k].args.length ec1, .int .i64 x.Y[k].sort] 87
   have hsz : (wr.alloc (.cells #[.string x.Y[k].name, .slice ea1 x.Y[k].args.length ec1, .int .i64 x.Y[k].sort] 87)).heap.size = wr.heap.size + 1 := by simp
   obtain ⟨w2, hw2⟩ : ∃ w2, w2 = wr.alloc (.cells #[.string x.Y[k].name, .slice ea1 x.Y[k].args.length ec1, .int .i64 x.Y[k].sort] 87) := ⟨_, rfl⟩; have hbw : Below wr.heap.size wr w2 := hw2 ▸ za _ _; go_wp2_with fail; rw [← hw2] at hBX hLX hbox hsz ⊢; clear hw2; obtain ⟨n0, n1, n2⟩ := yQ3 hbox; simp only [zdx, zdv, zdw] at n0 n1 n2; have cx2 := zb cx hbw
   cases h1 : zao x.Y[k].name
   ·have HF := zdH (Sg.okB_no hlt (Sg.okAt_bad hlt (Sy.okB_name h1)))
    have q0 := cell_regrown n0; have q1 := cell_regrown n1; have q2 := cell_regrown n2; have qx := cell_regrown cx2; refine wp_region_quiet_below (by kernel_rfl) (by kernel_rfl) ?_
    repeat (first | go_big_quiet_skip | quiet_step (first | (go_at_call 83; refine zdL ((zU _ _ em0).mono (fun e w' h => ⟨h.1, h.2 ▸ zdT _ _⟩))) | (go_at_call 84; refine zdL ((zZ _ _).mono (fun e w' h => ⟨h.1, h.2 ▸ zdT _ _⟩)))))
    refine wpQuiet_nil ?_; intro w3 hw3; obtain ⟨⟨dq, osq⟩, hw3⟩ := hw3; have hb3 : Below w2.heap.size w2 w3 := hw3 ▸ below_regrown w2 dq osq; clear hw3 q0 q1 q2 qx; go_wp2_with fail; go_ret; exact ⟨retB HF.out.symm, hBX.trans (hb3.mono (by omega))⟩
   have H1 := zdH h1
   by_cases h2 : x.Y[k].args.length ≤ 2
   rotate_left
   ·have HF := zdH (Sg.okB_no hlt (Sg.okAt_bad hlt (Sy.okB_len h2)))
    have t2 : decide ((2 : Int) < (x.Y[k].args.length : Int)) = true := by simp; omega
    have q0 := cell_regrown n0; have q1 := cell_regrown n1; have q2 := cell_regrown n2; have qx := cell_regrown cx2; refine wp_region_quiet_below (by kernel_rfl) (by kernel_rfl) ?_
    repeat (first | go_big_quiet_skip | quiet_step (first | (go_at_call 83; refine zdL ((zU _ _ em0).mono (fun e w' h => ⟨h.1, h.2 ▸ zdT _ _⟩))) | (go_at_call 84; refine zdL ((zZ _ _).mono (fun e w' h => ⟨h.1, h.2 ▸ zdT _ _⟩)))))
    refine wpQuiet_nil ?_; intro w3 hw3; obtain ⟨⟨dq, osq⟩, hw3⟩ := hw3; have hb3 : Below w2.heap.size w2 w3 := hw3 ▸ below_regrown w2 dq osq; clear hw3 q0 q1 q2 qx; go_wp2_with fail; go_ret; exact ⟨retB HF.out.symm, hBX.trans (hb3.mono (by omega))⟩
   have t2 : decide ((2 : Int) < (x.Y[k].args.length : Int)) = false := by simp; omega
   cases h3 : srtB x.Y[k].sort
   ·have HF := zdH (Sg.okB_no hlt (Sg.okAt_bad hlt (Sy.okB_sort h3)))
    have q0 := cell_regrown n0; have q1 := cell_regrown n1; have q2 := cell_regrown n2; have qx := cell_regrown cx2; refine wp_region_quiet_below (by kernel_rfl) (by kernel_rfl) ?_
    repeat (first | go_big_quiet_skip | quiet_step (first | (go_at_call 83; refine zdL ((zU _ _ em0).mono (fun e w' h => ⟨h.1, h.2 ▸ zdT _ _⟩))) | (go_at_call 84; refine zdL ((zZ _ _).mono (fun e w' h => ⟨h.1, h.2 ▸ zdT _ _⟩)))))
    refine wpQuiet_nil ?_; intro w3 hw3; obtain ⟨⟨dq, osq⟩, hw3⟩ := hw3; have hb3 : Below w2.heap.size w2 w3 := hw3 ▸ below_regrown w2 dq osq; clear hw3 q0 q1 q2 qx; go_wp2_with fail; go_ret; exact ⟨retB HF.out.symm, hBX.trans (hb3.mono (by omega))⟩
   have H3 := zdH h3
   rcases Nat.eq_zero_or_pos k with hk0 | hkp
   ·subst hk0
    have HFIN : Hid (x.Y[0].args.all srtB = true → x.okAt 0 = true) := zdH (fun h => Sg.okAt_zero hlt (Sy.okB_yes H1.out h2 H3.out h)); have HALL : Hid (x.okAt 0 = true → ∀ j, j < 0 + 1 → x.okAt j = true) := zdH (fun h j hj => (show j = 0 by omega) ▸ h); have q0 := cell_regrown n0; have q1 := cell_regrown n1; have q2 := cell_regrown n2; have qx := cell_regrown cx2; refine wp_region_quiet_below (by kernel_rfl) (by kernel_rfl) ?_
    repeat (first | go_big_quiet_skip | quiet_step (first | (go_at_call 83; refine zdL ((zU _ _ em0).mono (fun e w' h => ⟨h.1, h.2 ▸ zdT _ _⟩))) | (go_at_call 84; refine zdL ((zZ _ _).mono (fun e w' h => ⟨h.1, h.2 ▸ zdT _ _⟩)))))
    refine wpQuiet_nil ?_; intro w3 hw3; obtain ⟨⟨dq, osq⟩, hw3⟩ := hw3; have hb3 : Below w2.heap.size w2 w3 := hw3 ▸ below_regrown w2 dq osq; clear hw3 q0 q1 q2 qx; go_wp2_with fail; have n1' := zb n1 hb3; have em1w := (em1.below hbw).below hb3; have hL3 := hLX.trans (hb3.mono (by omega)); have hB3 := hBX.trans (hb3.mono (by omega)); have hsz3 := hb3.size
    go_loopw [5] (fun i wq => ∃ g : Nat, g ≤ x.Y[0].args.length ∧ i = .int .i64 g ∧ Hid ((x.Y[0].args.take g).all srtB = true) ∧ Below w3.heap.size w3 wq) (fun i _ => x.Y[0].args.length - (intOf i).toNat)
    case atStart => exact ⟨0, zdR _, rfl, zdH (by simp), zdT _ _⟩
    case round =>
     obtain ⟨g, hgl, rfl, hallg, hM⟩ := hrel; have gx := zb n1' hM; have hszm := hM.size
     by_cases hgt : g < x.Y[0].args.length
     ·have em1m := em1w.below hM
      obtain ⟨eb, eo, rfl, ebs, _⟩ := zo em1m (by omega); obtain ⟨g0, _⟩ := zS em1m hgt; go_wp2_with fail; refine (zZ _ _).mono ?_; rintro e w5 ⟨rfl, rfl⟩
      cases he : srtB x.Y[0].args[g]
      ·have HF := zdH (Sg.okB_no hlt (Sg.okAt_bad hlt (Sy.okB_args (zb0 hgt he))))
       have he' : (!srtB x.Y[0].args[g]) = true := by rw [he]; rfl
       go_wp2_with fail; go_ret; exact ⟨retB HF.out.symm, hB3.trans (hM.mono (by omega))⟩
      ·have HE := zdH (zbC hgt hallg.out he)
       have he' : (!srtB x.Y[0].args[g]) = false := by rw [he]; rfl
       go_wp2_with fail; go_roundw
       case rel => exact ⟨g + 1, by omega, by go_num, HE, hM⟩
       case measure => simp [intOf]; omega
     ·have HE := zdH (HFIN.out (by have := hallg.out; rwa [zdK (by omega)] at this))
      go_wp2_with fail; go_roundw
      case rel => exact ⟨0 + 1, by omega, by go_num, zdH (HALL.out HE.out), hL3.trans (hM.mono (by omega))⟩
      case measure => simp [intOf]; omega
   ·obtain ⟨j, rfl⟩ : ∃ j, k = j + 1 := ⟨k - 1, by omega⟩
    have hlt1 : j < x.Y.length := by omega
    obtain ⟨_, _, _, p0', _, _, pm0, _⟩ := Sy.at (m0.below hBL) hlt1; have p0 := zb p0' hbw; have hge := geq_run 9 x.Y[j].name x.Y[j + 1].name
    have hs1 : IntKind.i64.wrap (j : Int) = (j : Int) := by rw [IntWalk.i64_in _ (by omega)]
    cases hcmp : nmLt x.Y[j].name x.Y[j + 1].name
    ·have HF := zdH (Sg.okB_no hlt (Sg.okAt_cmp hlt hcmp))
     rw [hcmp] at hge; have q0 := cell_regrown n0; have q1 := cell_regrown n1; have q2 := cell_regrown n2; have qx := cell_regrown cx2; have qp := cell_regrown p0; refine wp_region_quiet_below (by kernel_rfl) (by kernel_rfl) ?_
     repeat (first | go_big_quiet_skip | quiet_step (first | (go_at_call 83; refine zdL ((zU _ _ em0).mono (fun e w' h => ⟨h.1, h.2 ▸ zdT _ _⟩))) | (go_at_call 84; refine zdL ((zZ _ _).mono (fun e w' h => ⟨h.1, h.2 ▸ zdT _ _⟩)))))
     refine wpQuiet_nil ?_; intro w3 hw3; obtain ⟨⟨dq, osq⟩, hw3⟩ := hw3; have hb3 : Below w2.heap.size w2 w3 := hw3 ▸ below_regrown w2 dq osq; clear hw3 q0 q1 q2 qx qp; go_wp2_with fail; go_ret; exact ⟨retB HF.out.symm, hBX.trans (hb3.mono (by omega))⟩
    ·have HFIN : Hid (x.Y[j + 1].args.all srtB = true → x.okAt (j + 1) = true) := zdH (fun h => (Sg.okAt_succ hlt (Sy.okB_yes H1.out h2 H3.out h)).trans hcmp)
     have HALL : Hid (x.okAt (j + 1) = true → ∀ i, i < j + 1 + 1 → x.okAt i = true) := zdH (fun h i hi => by
      rcases Nat.lt_or_ge i (j + 1) with h' | h'
      ·exact hall.out i h'
      ·obtain rfl : i = j + 1 := by omega
       exact h)
     rw [hcmp] at hge; have q0 := cell_regrown n0; have q1 := cell_regrown n1; have q2 := cell_regrown n2; have qx := cell_regrown cx2; have qp := cell_regrown p0; refine wp_region_quiet_below (by kernel_rfl) (by kernel_rfl) ?_
     repeat (first | go_big_quiet_skip | quiet_step (first | (go_at_call 83; refine zdL ((zU _ _ em0).mono (fun e w' h => ⟨h.1, h.2 ▸ zdT _ _⟩))) | (go_at_call 84; refine zdL ((zZ _ _).mono (fun e w' h => ⟨h.1, h.2 ▸ zdT _ _⟩)))))
     refine wpQuiet_nil ?_; intro w3 hw3; obtain ⟨⟨dq, osq⟩, hw3⟩ := hw3; have hb3 : Below w2.heap.size w2 w3 := hw3 ▸ below_regrown w2 dq osq; clear hw3 q0 q1 q2 qx qp; go_wp2_with fail; have n1' := zb n1 hb3; have em1w := (em1.below hbw).below hb3; have hL3 := hLX.trans (hb3.mono (by omega)); have hB3 := hBX.trans (hb3.mono (by omega)); have hsz3 := hb3.size
     go_loopw [5] (fun i wq => ∃ g : Nat, g ≤ x.Y[j + 1].args.length ∧ i = .int .i64 g ∧ Hid ((x.Y[j + 1].args.take g).all srtB = true) ∧ Below w3.heap.size w3 wq) (fun i _ => x.Y[j + 1].args.length - (intOf i).toNat)
     case atStart => exact ⟨0, zdR _, rfl, zdH (by simp), zdT _ _⟩
     case round =>
      obtain ⟨g, hgl, rfl, hallg, hM⟩ := hrel; have gx := zb n1' hM; have hszm := hM.size
      by_cases hgt : g < x.Y[j + 1].args.length
      ·have em1m := em1w.below hM
       obtain ⟨eb, eo, rfl, ebs, _⟩ := zo em1m (by omega); obtain ⟨g0, _⟩ := zS em1m hgt; go_wp2_with fail; refine (zZ _ _).mono ?_; rintro e w5 ⟨rfl, rfl⟩
       cases he : srtB x.Y[j + 1].args[g]
       ·have HF := zdH (Sg.okB_no hlt (Sg.okAt_bad hlt (Sy.okB_args (zb0 hgt he))))
        have he' : (!srtB x.Y[j + 1].args[g]) = true := by rw [he]; rfl
        go_wp2_with fail; go_ret; exact ⟨retB HF.out.symm, hB3.trans (hM.mono (by omega))⟩
       ·have HE := zdH (zbC hgt hallg.out he)
        have he' : (!srtB x.Y[j + 1].args[g]) = false := by rw [he]; rfl
        go_wp2_with fail; go_roundw
        case rel => exact ⟨g + 1, by omega, by go_num, HE, hM⟩
        case measure => simp [intOf]; omega
      ·have HE := zdH (HFIN.out (by have := hallg.out; rwa [zdK (by omega)] at this))
       go_wp2_with fail; go_roundw
       case rel => exact ⟨j + 1 + 1, by omega, by go_num, zdH (HALL.out HE.out), hL3.trans (hM.mono (by omega))⟩
       case measure => simp [intOf]; omega
  ·have HE := zdH (Sg.okB_all (by omega) hall.out)
   go_wp2_with fail; go_ret
   exact ⟨retB (by rw [HE.out]; simp; try omega), hBL⟩
end Go.Proofs.Ytbfinjiledfpcaa
end
