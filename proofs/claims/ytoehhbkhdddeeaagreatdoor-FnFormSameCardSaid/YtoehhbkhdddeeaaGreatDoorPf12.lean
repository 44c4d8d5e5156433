/- Parts of the proof: Sig2. -/
import Derived.IntWalk
import Derived.Test.YtoehhbkhdddeeaaGreatDoorPf10
section
namespace Go.Proofs.YtoehhbkhdddeeaaGreatDoor
open Go Go.RowKit
set_option linter.unusedVariables false
set_option linter.unusedSimpArgs false
set_option maxRecDepth 100000
set_option maxHeartbeats 16000000
theorem zaS {w : World} {B : Nat} {wr : World} {cs : Array Value} {T : Nat} (hb : Below B w wr) (hz : B ≤ wr.heap.size) : Below B w (wr.alloc (.cells cs T)) := hb.alloc hz _
theorem geq_run (t : TypeId) (a b : ByteArray) : binOp .geq t (.string a) (.string b) = pure (.bool (!nmLt a b)) := by simp [binOp, Op.stringOp, nmLt]
theorem Sg.okAt_cmp {s : Sg} {k : Nat} (hk : k + 1 < s.syms.length) (h : nmLt s.syms[k].name s.syms[k + 1].name = false) : s.okAt (k + 1) = false := by
 simp [Sg.okAt, List.getElem?_eq_getElem hk, List.getElem?_eq_getElem (show k < s.syms.length by omega), h]
theorem Sy.okB_name {x : Sy} (h : zO x.name = false) : x.okB = false := by simp [Sy.okB, h]
theorem Sy.okB_len {x : Sy} (h : ¬ x.args.length ≤ 2) : x.okB = false := by simp [Sy.okB, h]
theorem Sy.okB_sort {x : Sy} (h : srtB x.sort = false) : x.okB = false := by simp [Sy.okB, h]
theorem Sy.okB_args {x : Sy} (h : x.args.all srtB = false) : x.okB = false := by simp only [Sy.okB, h, Bool.and_false]
theorem Sy.okB_yes {x : Sy} (h1 : zO x.name = true) (h2 : x.args.length ≤ 2) (h3 : srtB x.sort = true) (h4 : x.args.all srtB = true) : x.okB = true := by simp only [Sy.okB, h1, decide_eq_true h2, h3, h4]; rfl
theorem zbM (x : Sg) (vs : List Value) (f : List Nat) (w : World) (hv : RdVs w x.cd vs f) :
  Calls Tryz.prog 73 #[.agg vs.toArray] w fun e w' => e = .returned (.bool x.okB) ∧ Below w.heap.size w w' := by
 obtain ⟨a0, c0, f0, rfl, _, m0⟩ := Sg.open hv
 have hlen := zaj m0
 go_enter Tryz.func73, Tryz.ntmps73
 go_wp2_with fail
 go_loopw [3] (fun i wq => ∃ k : Nat, k ≤ x.syms.length ∧ i = .int .i64 k ∧ Hid (∀ j, j < k → x.okAt j = true) ∧ Below (w.heap.size + 1) (w.alloc (.cells #[.slice a0 x.syms.length c0] 43)) wq) (fun i _ => x.syms.length - (intOf i).toNat)
 case atStart => exact ⟨0, Nat.zero_le _, rfl, Lib.hid (fun j h => by omega), Below.refl _ _⟩
 case round =>
  obtain ⟨k, hkl, rfl, hall, hL⟩ := hrel
  obtain ⟨hxL, hzL, hBL⟩ := box1 hL
  have cx := hxL 0
  simp only [zdP, zdN, zdO] at cx
  by_cases hlt : k < x.syms.length
  ·obtain ⟨b, off, rfl, hbs, _⟩ := zl m0 (by omega)
   have hbz2 : b < wr.heap.size := by omega
   have hz0 : w.heap.size < wr.heap.size := by omega
   obtain ⟨ea1, ec1, ef1, d0, d1, d2, em0, em1, em2, _⟩ := Sy.at (m0.below hBL) hlt
   have hlen2 := zaj em1
   have hBX := zaS (cs := #[.string x.syms[k].name, .slice ea1 x.syms[k].args.length ec1, .int .i64 x.syms[k].sort]) (T := 70) hBL (by omega)
   have hLX := zaS (cs := #[.string x.syms[k].name, .slice ea1 x.syms[k].args.length ec1, .int .i64 x.syms[k].sort]) (T := 70) hL (by omega)
   have hbox := zx wr #[.string x.syms[k].name, .slice ea1 x.syms[k].args.length ec1, .int .i64 x.syms[k].sort] 70
   have hsz : (wr.alloc (.cells #[.string x.syms[k].name, .slice ea1 x.syms[k].args.length ec1, .int .i64 x.syms[k].sort] 70)).heap.size = wr.heap.size + 1 := by simp
   obtain ⟨w2, hw2⟩ : ∃ w2, w2 = wr.alloc (.cells #[.string x.syms[k].name, .slice ea1 x.syms[k].args.length ec1, .int .i64 x.syms[k].sort] 70) := ⟨_, rfl⟩
   have hbw : Below wr.heap.size wr w2 := hw2 ▸ za _ _
   go_wp2_with fail
   rw [← hw2] at hBX hLX hbox hsz ⊢
   clear hw2
   have n0 := hbox 0
   have n1 := hbox 1
   have n2 := hbox 2
   simp only [zdP, zdN, zdO] at n0 n1 n2
   have cx2 := zb cx hbw
   cases h1 : zO x.syms[k].name
   ·have HF := Lib.hid (Sg.okB_no hlt (Sg.okAt_bad hlt (Sy.okB_name h1)))
    have q0 := cell_regrown n0
    have q1 := cell_regrown n1
    have q2 := cell_regrown n2
    have qx := cell_regrown cx2
    refine wp_region_quiet_below (by kernel_rfl) (by kernel_rfl) ?_
    repeat (first | go_big_quiet_skip | quiet_step (first | (go_at_call 81; refine Calls.regrown_of ((zL _ _ em0).mono (fun e w' h => ⟨h.1, h.2 ▸ Below.refl _ _⟩))) | (go_at_call 82; refine Calls.regrown_of ((zU _ _).mono (fun e w' h => ⟨h.1, h.2 ▸ Below.refl _ _⟩)))))
    refine wpQuiet_nil ?_
    intro w3 hw3
    obtain ⟨⟨dq, osq⟩, hw3⟩ := hw3
    have hb3 : Below w2.heap.size w2 w3 := hw3 ▸ below_regrown w2 dq osq
    clear hw3 q0 q1 q2 qx
    go_wp2_with fail
    go_ret
    exact ⟨retB HF.out.symm, hBX.trans (hb3.mono (by omega))⟩
   have H1 := Lib.hid h1
   by_cases h2 : x.syms[k].args.length ≤ 2
   rotate_left
   ·have HF := Lib.hid (Sg.okB_no hlt (Sg.okAt_bad hlt (Sy.okB_len h2)))
    have t2 : decide ((2 : Int) < (x.syms[k].args.length : Int)) = true := by simp; omega
    have q0 := cell_regrown n0
    have q1 := cell_regrown n1
    have q2 := cell_regrown n2
    have qx := cell_regrown cx2
    refine wp_region_quiet_below (by kernel_rfl) (by kernel_rfl) ?_
    repeat (first | go_big_quiet_skip | quiet_step (first | (go_at_call 81; refine Calls.regrown_of ((zL _ _ em0).mono (fun e w' h => ⟨h.1, h.2 ▸ Below.refl _ _⟩))) | (go_at_call 82; refine Calls.regrown_of ((zU _ _).mono (fun e w' h => ⟨h.1, h.2 ▸ Below.refl _ _⟩)))))
    refine wpQuiet_nil ?_
    intro w3 hw3
    obtain ⟨⟨dq, osq⟩, hw3⟩ := hw3
    have hb3 : Below w2.heap.size w2 w3 := hw3 ▸ below_regrown w2 dq osq
    clear hw3 q0 q1 q2 qx
    go_wp2_with fail
    go_ret
    exact ⟨retB HF.out.symm, hBX.trans (hb3.mono (by omega))⟩
   have t2 : decide ((2 : Int) < (x.syms[k].args.length : Int)) = false := by simp; omega
   cases h3 : srtB x.syms[k].sort
   ·have HF := Lib.hid (Sg.okB_no hlt (Sg.okAt_bad hlt (Sy.okB_sort h3)))
    have q0 := cell_regrown n0
    have q1 := cell_regrown n1
    have q2 := cell_regrown n2
    have qx := cell_regrown cx2
    refine wp_region_quiet_below (by kernel_rfl) (by kernel_rfl) ?_
    repeat (first | go_big_quiet_skip | quiet_step (first | (go_at_call 81; refine Calls.regrown_of ((zL _ _ em0).mono (fun e w' h => ⟨h.1, h.2 ▸ Below.refl _ _⟩))) | (go_at_call 82; refine Calls.regrown_of ((zU _ _).mono (fun e w' h => ⟨h.1, h.2 ▸ Below.refl _ _⟩)))))
    refine wpQuiet_nil ?_
    intro w3 hw3
    obtain ⟨⟨dq, osq⟩, hw3⟩ := hw3
    have hb3 : Below w2.heap.size w2 w3 := hw3 ▸ below_regrown w2 dq osq
    clear hw3 q0 q1 q2 qx
    go_wp2_with fail
    go_ret
    exact ⟨retB HF.out.symm, hBX.trans (hb3.mono (by omega))⟩
   have H3 := Lib.hid h3
   rcases Nat.eq_zero_or_pos k with hk0 | hkp
   ·subst hk0
    have HFIN : Hid (x.syms[0].args.all srtB = true → x.okAt 0 = true) := Lib.hid (fun h => Sg.okAt_zero hlt (Sy.okB_yes H1.out h2 H3.out h))
    have HALL : Hid (x.okAt 0 = true → ∀ j, j < 0 + 1 → x.okAt j = true) := Lib.hid (fun h j hj => (show j = 0 by omega) ▸ h)
    have q0 := cell_regrown n0
    have q1 := cell_regrown n1
    have q2 := cell_regrown n2
    have qx := cell_regrown cx2
    refine wp_region_quiet_below (by kernel_rfl) (by kernel_rfl) ?_
    repeat (first | go_big_quiet_skip | quiet_step (first | (go_at_call 81; refine Calls.regrown_of ((zL _ _ em0).mono (fun e w' h => ⟨h.1, h.2 ▸ Below.refl _ _⟩))) | (go_at_call 82; refine Calls.regrown_of ((zU _ _).mono (fun e w' h => ⟨h.1, h.2 ▸ Below.refl _ _⟩)))))
    refine wpQuiet_nil ?_
    intro w3 hw3
    obtain ⟨⟨dq, osq⟩, hw3⟩ := hw3
    have hb3 : Below w2.heap.size w2 w3 := hw3 ▸ below_regrown w2 dq osq
    clear hw3 q0 q1 q2 qx
    go_wp2_with fail
    have n1' := zb n1 hb3
    have em1w := (em1.below hbw).below hb3
    have hL3 := hLX.trans (hb3.mono (by omega))
    have hB3 := hBX.trans (hb3.mono (by omega))
    have hsz3 := hb3.size
    go_loopw [5] (fun i wq => ∃ g : Nat, g ≤ x.syms[0].args.length ∧ i = .int .i64 g ∧ Hid ((x.syms[0].args.take g).all srtB = true) ∧ Below w3.heap.size w3 wq) (fun i _ => x.syms[0].args.length - (intOf i).toNat)
    case atStart => exact ⟨0, Nat.zero_le _, rfl, Lib.hid (by simp), Below.refl _ _⟩
    case round =>
     obtain ⟨g, hgl, rfl, hallg, hM⟩ := hrel
     have gx := zb n1' hM
     have hszm := hM.size
     by_cases hgt : g < x.syms[0].args.length
     ·have em1m := em1w.below hM
      obtain ⟨eb, eo, rfl, ebs, _⟩ := zl em1m (by omega)
      obtain ⟨g0, _⟩ := zK em1m hgt
      go_wp2_with fail
      refine (zU _ _).mono ?_
      rintro e w5 ⟨rfl, rfl⟩
      cases he : srtB x.syms[0].args[g]
      ·have HF := Lib.hid (Sg.okB_no hlt (Sg.okAt_bad hlt (Sy.okB_args (zcg hgt he))))
       have he' : (!srtB x.syms[0].args[g]) = true := by rw [he]; rfl
       go_wp2_with fail
       go_ret
       exact ⟨retB HF.out.symm, hB3.trans (hM.mono (by omega))⟩
      ·have HE := Lib.hid (zbt hgt hallg.out he)
       have he' : (!srtB x.syms[0].args[g]) = false := by rw [he]; rfl
       go_wp2_with fail
       go_roundw
       case rel => exact ⟨g + 1, by omega, by go_num, HE, hM⟩
       case measure => simp [intOf]; omega
     ·have HE := Lib.hid (HFIN.out (by have := hallg.out; rwa [List.take_of_length_le (by omega)] at this))
      go_wp2_with fail
      go_roundw
      case rel => exact ⟨0 + 1, by omega, by go_num, Lib.hid (HALL.out HE.out), hL3.trans (hM.mono (by omega))⟩
      case measure => simp [intOf]; omega
   ·obtain ⟨j, rfl⟩ : ∃ j, k = j + 1 := ⟨k - 1, by omega⟩
    have hlt1 : j < x.syms.length := by omega
    obtain ⟨_, _, _, p0', _, _, pm0, _⟩ := Sy.at (m0.below hBL) hlt1
    have p0 := zb p0' hbw
    have hge := geq_run 9 x.syms[j].name x.syms[j + 1].name
    have hs1 : IntKind.i64.wrap (j : Int) = (j : Int) := by rw [IntWalk.i64_in _ (by omega)]
    cases hcmp : nmLt x.syms[j].name x.syms[j + 1].name
    ·have HF := Lib.hid (Sg.okB_no hlt (Sg.okAt_cmp hlt hcmp))
     rw [hcmp] at hge
     have q0 := cell_regrown n0
     have q1 := cell_regrown n1
     have q2 := cell_regrown n2
     have qx := cell_regrown cx2
     have qp := cell_regrown p0
     refine wp_region_quiet_below (by kernel_rfl) (by kernel_rfl) ?_
     repeat (first | go_big_quiet_skip | quiet_step (first | (go_at_call 81; refine Calls.regrown_of ((zL _ _ em0).mono (fun e w' h => ⟨h.1, h.2 ▸ Below.refl _ _⟩))) | (go_at_call 82; refine Calls.regrown_of ((zU _ _).mono (fun e w' h => ⟨h.1, h.2 ▸ Below.refl _ _⟩)))))
     refine wpQuiet_nil ?_
     intro w3 hw3
     obtain ⟨⟨dq, osq⟩, hw3⟩ := hw3
     have hb3 : Below w2.heap.size w2 w3 := hw3 ▸ below_regrown w2 dq osq
     clear hw3 q0 q1 q2 qx qp
     go_wp2_with fail
     go_ret
     exact ⟨retB HF.out.symm, hBX.trans (hb3.mono (by omega))⟩
    ·have HFIN : Hid (x.syms[j + 1].args.all srtB = true → x.okAt (j + 1) = true) := Lib.hid (fun h => (Sg.okAt_succ hlt (Sy.okB_yes H1.out h2 H3.out h)).trans hcmp)
     have HALL : Hid (x.okAt (j + 1) = true → ∀ i, i < j + 1 + 1 → x.okAt i = true) := Lib.hid (fun h i hi => by
      rcases Nat.lt_or_ge i (j + 1) with h' | h'
      ·exact hall.out i h'
      ·obtain rfl : i = j + 1 := by omega
       exact h)
     rw [hcmp] at hge
     have q0 := cell_regrown n0
     have q1 := cell_regrown n1
     have q2 := cell_regrown n2
     have qx := cell_regrown cx2
     have qp := cell_regrown p0
     refine wp_region_quiet_below (by kernel_rfl) (by kernel_rfl) ?_
     repeat (first | go_big_quiet_skip | quiet_step (first | (go_at_call 81; refine Calls.regrown_of ((zL _ _ em0).mono (fun e w' h => ⟨h.1, h.2 ▸ Below.refl _ _⟩))) | (go_at_call 82; refine Calls.regrown_of ((zU _ _).mono (fun e w' h => ⟨h.1, h.2 ▸ Below.refl _ _⟩)))))
     refine wpQuiet_nil ?_
     intro w3 hw3
     obtain ⟨⟨dq, osq⟩, hw3⟩ := hw3
     have hb3 : Below w2.heap.size w2 w3 := hw3 ▸ below_regrown w2 dq osq
     clear hw3 q0 q1 q2 qx qp
     go_wp2_with fail
     have n1' := zb n1 hb3
     have em1w := (em1.below hbw).below hb3
     have hL3 := hLX.trans (hb3.mono (by omega))
     have hB3 := hBX.trans (hb3.mono (by omega))
     have hsz3 := hb3.size
     go_loopw [5] (fun i wq => ∃ g : Nat, g ≤ x.syms[j + 1].args.length ∧ i = .int .i64 g ∧ Hid ((x.syms[j + 1].args.take g).all srtB = true) ∧ Below w3.heap.size w3 wq) (fun i _ => x.syms[j + 1].args.length - (intOf i).toNat)
     case atStart => exact ⟨0, Nat.zero_le _, rfl, Lib.hid (by simp), Below.refl _ _⟩
     case round =>
      obtain ⟨g, hgl, rfl, hallg, hM⟩ := hrel
      have gx := zb n1' hM
      have hszm := hM.size
      by_cases hgt : g < x.syms[j + 1].args.length
      ·have em1m := em1w.below hM
       obtain ⟨eb, eo, rfl, ebs, _⟩ := zl em1m (by omega)
       obtain ⟨g0, _⟩ := zK em1m hgt
       go_wp2_with fail
       refine (zU _ _).mono ?_
       rintro e w5 ⟨rfl, rfl⟩
       cases he : srtB x.syms[j + 1].args[g]
       ·have HF := Lib.hid (Sg.okB_no hlt (Sg.okAt_bad hlt (Sy.okB_args (zcg hgt he))))
        have he' : (!srtB x.syms[j + 1].args[g]) = true := by rw [he]; rfl
        go_wp2_with fail
        go_ret
        exact ⟨retB HF.out.symm, hB3.trans (hM.mono (by omega))⟩
       ·have HE := Lib.hid (zbt hgt hallg.out he)
        have he' : (!srtB x.syms[j + 1].args[g]) = false := by rw [he]; rfl
        go_wp2_with fail
        go_roundw
        case rel => exact ⟨g + 1, by omega, by go_num, HE, hM⟩
        case measure => simp [intOf]; omega
      ·have HE := Lib.hid (HFIN.out (by have := hallg.out; rwa [List.take_of_length_le (by omega)] at this))
       go_wp2_with fail
       go_roundw
       case rel => exact ⟨j + 1 + 1, by omega, by go_num, Lib.hid (HALL.out HE.out), hL3.trans (hM.mono (by omega))⟩
       case measure => simp [intOf]; omega
  ·have HE := Lib.hid (Sg.okB_all (by omega) hall.out)
   go_wp2_with fail
   go_ret
   exact ⟨retB (by rw [HE.out]; simp; try omega), hBL⟩
end Go.Proofs.YtoehhbkhdddeeaaGreatDoor
end
