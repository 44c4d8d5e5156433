/- Parts of the proof: Sig2 Sig3. -/
import Derived.IntWalk
import Derived.Test.YtlefdhhnlbpbkaaGreatPv9
import Derived.Test.YtlefdhhnlbpbkaaGreatPv8
section
namespace Go.Proofs.YtlefdhhnlbpbkaaGreat
open Go Go.RowKit
set_option linter.unusedVariables false
set_option linter.unusedSimpArgs false
set_option maxRecDepth 100000
set_option maxHeartbeats 16000000
theorem zI {w : World} {B : Nat} {wr : World} {cs : Array Value} {T : Nat} (hb : Below B w wr) (hz : B ≤ wr.heap.size) : Below B w (wr.alloc (.cells cs T)) := hb.alloc hz _
theorem geq_run (t : TypeId) (a b : ByteArray) : binOp .geq t (.string a) (.string b) = pure (.bool (!nmLt a b)) := by simp [binOp, Op.stringOp, nmLt]
theorem zcN (x : Sg) (vs : List Value) (f : List Nat) (w : World) (hv : RdVs w x.cd vs f) :
  Calls Tryz.prog 38 #[.agg vs.toArray] w fun e w' => e = .returned (.bool x.okB) ∧ Below w.heap.size w w' := by
 obtain ⟨a0, c0, f0, rfl, _, m0⟩ := Sg.open hv
 have hlen := zaB m0
 go_enter Tryz.func38, Tryz.ntmps38
 go_wp2_with fail
 go_loopw [8] (fun i wq => ∃ k : Nat, k ≤ x.syms.length ∧ i = .int .i64 k ∧ Hid (∀ j, j < k → x.okAt j = true) ∧ Below (w.heap.size + 1) (w.alloc (.cells #[.slice a0 x.syms.length c0] 25)) wq) (fun i _ => x.syms.length - (intOf i).toNat)
 case atStart => exact ⟨0, Nat.zero_le _, rfl, Lib.hid (fun j h => by omega), Below.refl _ _⟩
 case round =>
  obtain ⟨k, hkl, rfl, hall, hL⟩ := hrel
  obtain ⟨hxL, hzL, hBL⟩ := box1 hL
  have cx := hxL 0
  simp only [zeo, zem, zen] at cx
  by_cases hlt : k < x.syms.length
  ·obtain ⟨b, off, rfl, hbs, _⟩ := zm m0 (by omega)
   have hbz2 : b < wr.heap.size := by omega
   have hz0 : w.heap.size < wr.heap.size := by omega
   obtain ⟨ea1, ec1, ef1, d0, d1, d2, em0, em1, em2, _⟩ := Sy.at (m0.below hBL) hlt
   have hBX := zI (cs := #[.string x.syms[k].name, .slice ea1 x.syms[k].args.length ec1, .int .i64 x.syms[k].sort]) (T := 102) hBL (by omega)
   have hLX := zI (cs := #[.string x.syms[k].name, .slice ea1 x.syms[k].args.length ec1, .int .i64 x.syms[k].sort]) (T := 102) hL (by omega)
   have hrd := (Sy.close em0 em1 em2).below (zb wr (.cells #[.string x.syms[k].name, .slice ea1 x.syms[k].args.length ec1, .int .i64 x.syms[k].sort] 102))
   go_wp2_with fail
   obtain ⟨w2, hw2⟩ : ∃ w2, w2 = wr.alloc (.cells #[.string x.syms[k].name, .slice ea1 x.syms[k].args.length ec1, .int .i64 x.syms[k].sort] 102) := ⟨_, rfl⟩
   have hbox := zv wr #[.string x.syms[k].name, .slice ea1 x.syms[k].args.length ec1, .int .i64 x.syms[k].sort] 102
   have hsz : (wr.alloc (.cells #[.string x.syms[k].name, .slice ea1 x.syms[k].args.length ec1, .int .i64 x.syms[k].sort] 102)).heap.size = wr.heap.size + 1 := by simp
   have hbw : Below wr.heap.size wr w2 := hw2 ▸ zb _ _
   rw [← hw2] at hBX hLX hrd hbox hsz ⊢
   clear hw2
   have n0 := hbox 0
   have n1 := hbox 1
   have n2 := hbox 2
   simp only [zeo, zem, zen] at n0 n1 n2
   have cx2 := za cx hbw
   cases hok : x.syms[k].okB
   ·have HF := Lib.hid (Sg.okB_no hlt (Sg.okAt_bad hlt hok))
    have q0 := cell_regrown n0
    have q1 := cell_regrown n1
    have q2 := cell_regrown n2
    have qx := cell_regrown cx2
    refine wp_region_quiet_below (by kernel_rfl) (by kernel_rfl) ?_
    repeat (first | go_big_quiet_skip | quiet_step ((go_at_call 64; refine Calls.regrown_of (zaX _ _ _ _ (hrd.below (below_regrown _ _ _))))))
    refine wpQuiet_nil ?_
    intro w3 hw3
    obtain ⟨⟨dq, osq⟩, hw3⟩ := hw3
    have hb3 : Below w2.heap.size w2 w3 := hw3 ▸ below_regrown w2 dq osq
    clear hw3 q0 q1 q2 qx
    go_wp2_with fail
    go_ret
    exact ⟨retB HF.out.symm, hBX.trans (hb3.mono (by omega))⟩
   have HOK := Lib.hid hok
   rcases Nat.eq_zero_or_pos k with hk0 | hkp
   ·subst hk0
    have HE := Lib.hid (Sg.okAt_zero hlt HOK.out)
    have q0 := cell_regrown n0
    have q1 := cell_regrown n1
    have q2 := cell_regrown n2
    have qx := cell_regrown cx2
    refine wp_region_quiet_below (by kernel_rfl) (by kernel_rfl) ?_
    repeat (first | go_big_quiet_skip | quiet_step ((go_at_call 64; refine Calls.regrown_of (zaX _ _ _ _ (hrd.below (below_regrown _ _ _))))))
    refine wpQuiet_nil ?_
    intro w3 hw3
    obtain ⟨⟨dq, osq⟩, hw3⟩ := hw3
    have hb3 : Below w2.heap.size w2 w3 := hw3 ▸ below_regrown w2 dq osq
    clear hw3 q0 q1 q2 qx
    go_wp2_with fail
    go_roundw
    case rel => exact ⟨1, by omega, by go_num, Lib.hid (fun j hj => (show j = 0 by omega) ▸ HE.out), hLX.trans (hb3.mono (by omega))⟩
    case measure => simp [intOf]; omega
   ·obtain ⟨j, rfl⟩ : ∃ j, k = j + 1 := ⟨k - 1, by omega⟩
    have hlt1 : j < x.syms.length := by omega
    obtain ⟨_, _, _, p0', _, _, pm0, _⟩ := Sy.at (m0.below hBL) hlt1
    have p0 := za p0' hbw
    have hge := geq_run 9 x.syms[j].name x.syms[j + 1].name
    have hs1 : IntKind.i64.wrap (j : Int) = (j : Int) := by rw [IntWalk.i64_in _ (by omega)]
    have HS := Lib.hid (Sg.okAt_succ hlt HOK.out)
    cases hcmp : nmLt x.syms[j].name x.syms[j + 1].name
    ·have HF := Lib.hid (Sg.okB_no hlt (HS.out.trans hcmp))
     rw [hcmp] at hge
     have q0 := cell_regrown n0
     have q1 := cell_regrown n1
     have q2 := cell_regrown n2
     have qx := cell_regrown cx2
     have qp := cell_regrown p0
     refine wp_region_quiet_below (by kernel_rfl) (by kernel_rfl) ?_
     repeat (first | go_big_quiet_skip | quiet_step ((go_at_call 64; refine Calls.regrown_of (zaX _ _ _ _ (hrd.below (below_regrown _ _ _))))))
     refine wpQuiet_nil ?_
     intro w3 hw3
     obtain ⟨⟨dq, osq⟩, hw3⟩ := hw3
     have hb3 : Below w2.heap.size w2 w3 := hw3 ▸ below_regrown w2 dq osq
     clear hw3 q0 q1 q2 qx qp
     go_wp2_with fail
     go_ret
     exact ⟨retB HF.out.symm, hBX.trans (hb3.mono (by omega))⟩
    ·have HE := Lib.hid (HS.out.trans hcmp)
     rw [hcmp] at hge
     have q0 := cell_regrown n0
     have q1 := cell_regrown n1
     have q2 := cell_regrown n2
     have qx := cell_regrown cx2
     have qp := cell_regrown p0
     refine wp_region_quiet_below (by kernel_rfl) (by kernel_rfl) ?_
     repeat (first | go_big_quiet_skip | quiet_step ((go_at_call 64; refine Calls.regrown_of (zaX _ _ _ _ (hrd.below (below_regrown _ _ _))))))
     refine wpQuiet_nil ?_
     intro w3 hw3
     obtain ⟨⟨dq, osq⟩, hw3⟩ := hw3
     have hb3 : Below w2.heap.size w2 w3 := hw3 ▸ below_regrown w2 dq osq
     clear hw3 q0 q1 q2 qx qp
     go_wp2_with fail
     go_roundw
     case rel => exact ⟨j + 1 + 1, by omega, by go_num, Lib.hid (fun i hi => by
       rcases Nat.lt_or_ge i (j + 1) with h | h
       ·exact hall.out i h
       ·obtain rfl : i = j + 1 := by omega
        exact HE.out), hLX.trans (hb3.mono (by omega))⟩
     case measure => simp [intOf]; omega
  ·have HE := Lib.hid (Sg.okB_all (by omega) hall.out)
   go_wp2_with fail
   go_ret
   exact ⟨retB (by rw [HE.out]; simp; try omega), hBL⟩
theorem Sg.okAt_cmp {s : Sg} {k : Nat} (hk : k + 1 < s.syms.length) (h : nmLt s.syms[k].name s.syms[k + 1].name = false) : s.okAt (k + 1) = false := by
 simp [Sg.okAt, List.getElem?_eq_getElem hk, List.getElem?_eq_getElem (show k < s.syms.length by omega), h]
theorem Sy.okB_name {x : Sy} (h : zaa x.name = false) : x.okB = false := by simp [Sy.okB, h]
theorem Sy.okB_len {x : Sy} (h : ¬ x.args.length ≤ 2) : x.okB = false := by simp [Sy.okB, h]
theorem Sy.okB_sort {x : Sy} (h : srtB x.sort = false) : x.okB = false := by simp [Sy.okB, h]
theorem Sy.okB_args {x : Sy} (h : x.args.all srtB = false) : x.okB = false := by simp only [Sy.okB, h, Bool.and_false]
theorem Sy.okB_yes {x : Sy} (h1 : zaa x.name = true) (h2 : x.args.length ≤ 2) (h3 : srtB x.sort = true) (h4 : x.args.all srtB = true) : x.okB = true := by simp only [Sy.okB, h1, decide_eq_true h2, h3, h4]; rfl
theorem zb1 (x : Sg) (vs : List Value) (f : List Nat) (w : World) (hv : RdVs w x.cd vs f) :
  Calls Tryz.prog 43 #[.agg vs.toArray] w fun e w' => e = .returned (.bool x.okB) ∧ Below w.heap.size w w' := by
 obtain ⟨a0, c0, f0, rfl, _, m0⟩ := Sg.open hv
 have hlen := zaB m0
 go_enter Tryz.func43, Tryz.ntmps43
 go_wp2_with fail
 go_loopw [3] (fun i wq => ∃ k : Nat, k ≤ x.syms.length ∧ i = .int .i64 k ∧ Hid (∀ j, j < k → x.okAt j = true) ∧ Below (w.heap.size + 1) (w.alloc (.cells #[.slice a0 x.syms.length c0] 25)) wq) (fun i _ => x.syms.length - (intOf i).toNat)
 case atStart => exact ⟨0, Nat.zero_le _, rfl, Lib.hid (fun j h => by omega), Below.refl _ _⟩
 case round =>
  obtain ⟨k, hkl, rfl, hall, hL⟩ := hrel
  obtain ⟨hxL, hzL, hBL⟩ := box1 hL
  have cx := hxL 0
  simp only [zeo, zem, zen] at cx
  by_cases hlt : k < x.syms.length
  ·obtain ⟨b, off, rfl, hbs, _⟩ := zm m0 (by omega)
   have hbz2 : b < wr.heap.size := by omega
   have hz0 : w.heap.size < wr.heap.size := by omega
   obtain ⟨ea1, ec1, ef1, d0, d1, d2, em0, em1, em2, _⟩ := Sy.at (m0.below hBL) hlt
   have hlen2 := zaB em1
   have hBX := zI (cs := #[.string x.syms[k].name, .slice ea1 x.syms[k].args.length ec1, .int .i64 x.syms[k].sort]) (T := 102) hBL (by omega)
   have hLX := zI (cs := #[.string x.syms[k].name, .slice ea1 x.syms[k].args.length ec1, .int .i64 x.syms[k].sort]) (T := 102) hL (by omega)
   have hbox := zv wr #[.string x.syms[k].name, .slice ea1 x.syms[k].args.length ec1, .int .i64 x.syms[k].sort] 102
   have hsz : (wr.alloc (.cells #[.string x.syms[k].name, .slice ea1 x.syms[k].args.length ec1, .int .i64 x.syms[k].sort] 102)).heap.size = wr.heap.size + 1 := by simp
   obtain ⟨w2, hw2⟩ : ∃ w2, w2 = wr.alloc (.cells #[.string x.syms[k].name, .slice ea1 x.syms[k].args.length ec1, .int .i64 x.syms[k].sort] 102) := ⟨_, rfl⟩
   have hbw : Below wr.heap.size wr w2 := hw2 ▸ zb _ _
   go_wp2_with fail
   rw [← hw2] at hBX hLX hbox hsz ⊢
   clear hw2
   have n0 := hbox 0
   have n1 := hbox 1
   have n2 := hbox 2
   simp only [zeo, zem, zen] at n0 n1 n2
   have cx2 := za cx hbw
   cases h1 : zaa x.syms[k].name
   ·have HF := Lib.hid (Sg.okB_no hlt (Sg.okAt_bad hlt (Sy.okB_name h1)))
    have q0 := cell_regrown n0
    have q1 := cell_regrown n1
    have q2 := cell_regrown n2
    have qx := cell_regrown cx2
    refine wp_region_quiet_below (by kernel_rfl) (by kernel_rfl) ?_
    repeat (first | go_big_quiet_skip | quiet_step (first | (go_at_call 67; refine Calls.regrown_of ((zG _ _ em0).mono (fun e w' h => ⟨h.1, h.2 ▸ Below.refl _ _⟩))) | (go_at_call 68; refine Calls.regrown_of ((zR _ _).mono (fun e w' h => ⟨h.1, h.2 ▸ Below.refl _ _⟩)))))
    refine wpQuiet_nil ?_
    intro w3 hw3
    obtain ⟨⟨dq, osq⟩, hw3⟩ := hw3
    have hb3 : Below w2.heap.size w2 w3 := hw3 ▸ below_regrown w2 dq osq
    clear hw3 q0 q1 q2 qx
    go_wp2_with fail
    go_ret
    exact ⟨retB HF.out.symm, hBX.trans (hb3.mono (by omega))⟩
   have H1 := Lib.hid h1
   by_cases h2 : x.syms[k].args.length ≤ 2
   rotate_left
   ·have HF := Lib.hid (Sg.okB_no hlt (Sg.okAt_bad hlt (Sy.okB_len h2)))
    have t2 : decide ((2 : Int) < (x.syms[k].args.length : Int)) = true := by simp; omega
    have q0 := cell_regrown n0
    have q1 := cell_regrown n1
    have q2 := cell_regrown n2
    have qx := cell_regrown cx2
    refine wp_region_quiet_below (by kernel_rfl) (by kernel_rfl) ?_
    repeat (first | go_big_quiet_skip | quiet_step (first | (go_at_call 67; refine Calls.regrown_of ((zG _ _ em0).mono (fun e w' h => ⟨h.1, h.2 ▸ Below.refl _ _⟩))) | (go_at_call 68; refine Calls.regrown_of ((zR _ _).mono (fun e w' h => ⟨h.1, h.2 ▸ Below.refl _ _⟩)))))
    refine wpQuiet_nil ?_
    intro w3 hw3
    obtain ⟨⟨dq, osq⟩, hw3⟩ := hw3
    have hb3 : Below w2.heap.size w2 w3 := hw3 ▸ below_regrown w2 dq osq
    clear hw3 q0 q1 q2 qx
    go_wp2_with fail
    go_ret
    exact ⟨retB HF.out.symm, hBX.trans (hb3.mono (by omega))⟩
   have t2 : decide ((2 : Int) < (x.syms[k].args.length : Int)) = false := by simp; omega
   cases h3 : srtB x.syms[k].sort
   ·have HF := Lib.hid (Sg.okB_no hlt (Sg.okAt_bad hlt (Sy.okB_sort h3)))
    have q0 := cell_regrown n0
    have q1 := cell_regrown n1
    have q2 := cell_regrown n2
    have qx := cell_regrown cx2
    refine wp_region_quiet_below (by kernel_rfl) (by kernel_rfl) ?_
    repeat (first | go_big_quiet_skip | quiet_step (first | (go_at_call 67; refine Calls.regrown_of ((zG _ _ em0).mono (fun e w' h => ⟨h.1, h.2 ▸ Below.refl _ _⟩))) | (go_at_call 68; refine Calls.regrown_of ((zR _ _).mono (fun e w' h => ⟨h.1, h.2 ▸ Below.refl _ _⟩)))))
    refine wpQuiet_nil ?_
    intro w3 hw3
    obtain ⟨⟨dq, osq⟩, hw3⟩ := hw3
    have hb3 : Below w2.heap.size w2 w3 := hw3 ▸ below_regrown w2 dq osq
    clear hw3 q0 q1 q2 qx
    go_wp2_with fail
    go_ret
    exact ⟨retB HF.out.symm, hBX.trans (hb3.mono (by omega))⟩
   have H3 := Lib.hid h3
   rcases Nat.eq_zero_or_pos k with hk0 | hkp
   ·subst hk0
    have HFIN : Hid (x.syms[0].args.all srtB = true → x.okAt 0 = true) := Lib.hid (fun h => Sg.okAt_zero hlt (Sy.okB_yes H1.out h2 H3.out h))
    have HALL : Hid (x.okAt 0 = true → ∀ j, j < 0 + 1 → x.okAt j = true) := Lib.hid (fun h j hj => (show j = 0 by omega) ▸ h)
    have q0 := cell_regrown n0
    have q1 := cell_regrown n1
    have q2 := cell_regrown n2
    have qx := cell_regrown cx2
    refine wp_region_quiet_below (by kernel_rfl) (by kernel_rfl) ?_
    repeat (first | go_big_quiet_skip | quiet_step (first | (go_at_call 67; refine Calls.regrown_of ((zG _ _ em0).mono (fun e w' h => ⟨h.1, h.2 ▸ Below.refl _ _⟩))) | (go_at_call 68; refine Calls.regrown_of ((zR _ _).mono (fun e w' h => ⟨h.1, h.2 ▸ Below.refl _ _⟩)))))
    refine wpQuiet_nil ?_
    intro w3 hw3
    obtain ⟨⟨dq, osq⟩, hw3⟩ := hw3
    have hb3 : Below w2.heap.size w2 w3 := hw3 ▸ below_regrown w2 dq osq
    clear hw3 q0 q1 q2 qx
    go_wp2_with fail
    have n1' := za n1 hb3
    have em1w := (em1.below hbw).below hb3
    have hL3 := hLX.trans (hb3.mono (by omega))
    have hB3 := hBX.trans (hb3.mono (by omega))
    have hsz3 := hb3.size
    go_loopw [5] (fun i wq => ∃ g : Nat, g ≤ x.syms[0].args.length ∧ i = .int .i64 g ∧ Hid ((x.syms[0].args.take g).all srtB = true) ∧ Below w3.heap.size w3 wq) (fun i _ => x.syms[0].args.length - (intOf i).toNat)
    case atStart => exact ⟨0, Nat.zero_le _, rfl, Lib.hid (by simp), Below.refl _ _⟩
    case round =>
     obtain ⟨g, hgl, rfl, hallg, hM⟩ := hrel
     have gx := za n1' hM
     have hszm := hM.size
     by_cases hgt : g < x.syms[0].args.length
     ·have em1m := em1w.below hM
      obtain ⟨eb, eo, rfl, ebs, _⟩ := zm em1m (by omega)
      obtain ⟨g0, _⟩ := zL em1m hgt
      go_wp2_with fail
      refine (zR _ _).mono ?_
      rintro e w5 ⟨rfl, rfl⟩
      cases he : srtB x.syms[0].args[g]
      ·have HF := Lib.hid (Sg.okB_no hlt (Sg.okAt_bad hlt (Sy.okB_args (zbw hgt he))))
       have he' : (!srtB x.syms[0].args[g]) = true := by rw [he]; rfl
       go_wp2_with fail
       go_ret
       exact ⟨retB HF.out.symm, hB3.trans (hM.mono (by omega))⟩
      ·have HE := Lib.hid (zaR hgt hallg.out he)
       have he' : (!srtB x.syms[0].args[g]) = false := by rw [he]; rfl
       go_wp2_with fail
       go_roundw
       case rel => exact ⟨g + 1, by omega, by go_num, HE, hM⟩
       case measure => simp [intOf]; omega
     ·have HE := Lib.hid (HFIN.out (by have := hallg.out; rwa [List.take_of_length_le (by omega)] at this))
      go_wp2_with fail
      go_roundw
      case rel => exact ⟨0 + 1, by omega, by go_num, Lib.hid (HALL.out HE.out), hL3.trans (hM.mono (by omega))⟩
      case measure => simp [intOf]; omega
   ·obtain ⟨j, rfl⟩ : ∃ j, k = j + 1 := ⟨k - 1, by omega⟩
    have hlt1 : j < x.syms.length := by omega
    obtain ⟨_, _, _, p0', _, _, pm0, _⟩ := Sy.at (m0.below hBL) hlt1
    have p0 := za p0' hbw
    have hge := geq_run 9 x.syms[j].name x.syms[j + 1].name
    have hs1 : IntKind.i64.wrap (j : Int) = (j : Int) := by rw [IntWalk.i64_in _ (by omega)]
    cases hcmp : nmLt x.syms[j].name x.syms[j + 1].name
    ·have HF := Lib.hid (Sg.okB_no hlt (Sg.okAt_cmp hlt hcmp))
     rw [hcmp] at hge
     have q0 := cell_regrown n0
     have q1 := cell_regrown n1
     have q2 := cell_regrown n2
     have qx := cell_regrown cx2
     have qp := cell_regrown p0
     refine wp_region_quiet_below (by kernel_rfl) (by kernel_rfl) ?_
     repeat (first | go_big_quiet_skip | quiet_step (first | (go_at_call 67; refine Calls.regrown_of ((zG _ _ em0).mono (fun e w' h => ⟨h.1, h.2 ▸ Below.refl _ _⟩))) | (go_at_call 68; refine Calls.regrown_of ((zR _ _).mono (fun e w' h => ⟨h.1, h.2 ▸ Below.refl _ _⟩)))))
     refine wpQuiet_nil ?_
     intro w3 hw3
     obtain ⟨⟨dq, osq⟩, hw3⟩ := hw3
     have hb3 : Below w2.heap.size w2 w3 := hw3 ▸ below_regrown w2 dq osq
     clear hw3 q0 q1 q2 qx qp
     go_wp2_with fail
     go_ret
     exact ⟨retB HF.out.symm, hBX.trans (hb3.mono (by omega))⟩
    ·have HFIN : Hid (x.syms[j + 1].args.all srtB = true → x.okAt (j + 1) = true) := Lib.hid (fun h => (Sg.okAt_succ hlt (Sy.okB_yes H1.out h2 H3.out h)).trans hcmp)
     have HALL : Hid (x.okAt (j + 1) = true → ∀ i, i < j + 1 + 1 → x.okAt i = true) := Lib.hid (fun h i hi => by
      rcases Nat.lt_or_ge i (j + 1) with h' | h'
      ·exact hall.out i h'
      ·obtain rfl : i = j + 1 := by omega
       exact h)
     rw [hcmp] at hge
     have q0 := cell_regrown n0
     have q1 := cell_regrown n1
     have q2 := cell_regrown n2
     have qx := cell_regrown cx2
     have qp := cell_regrown p0
     refine wp_region_quiet_below (by kernel_rfl) (by kernel_rfl) ?_
     repeat (first | go_big_quiet_skip | quiet_step (first | (go_at_call 67; refine Calls.regrown_of ((zG _ _ em0).mono (fun e w' h => ⟨h.1, h.2 ▸ Below.refl _ _⟩))) | (go_at_call 68; refine Calls.regrown_of ((zR _ _).mono (fun e w' h => ⟨h.1, h.2 ▸ Below.refl _ _⟩)))))
     refine wpQuiet_nil ?_
     intro w3 hw3
     obtain ⟨⟨dq, osq⟩, hw3⟩ := hw3
     have hb3 : Below w2.heap.size w2 w3 := hw3 ▸ below_regrown w2 dq osq
     clear hw3 q0 q1 q2 qx qp
     go_wp2_with fail
     have n1' := za n1 hb3
     have em1w := (em1.below hbw).below hb3
     have hL3 := hLX.trans (hb3.mono (by omega))
     have hB3 := hBX.trans (hb3.mono (by omega))
     have hsz3 := hb3.size
     go_loopw [5] (fun i wq => ∃ g : Nat, g ≤ x.syms[j + 1].args.length ∧ i = .int .i64 g ∧ Hid ((x.syms[j + 1].args.take g).all srtB = true) ∧ Below w3.heap.size w3 wq) (fun i _ => x.syms[j + 1].args.length - (intOf i).toNat)
     case atStart => exact ⟨0, Nat.zero_le _, rfl, Lib.hid (by simp), Below.refl _ _⟩
     case round =>
      obtain ⟨g, hgl, rfl, hallg, hM⟩ := hrel
      have gx := za n1' hM
      have hszm := hM.size
      by_cases hgt : g < x.syms[j + 1].args.length
      ·have em1m := em1w.below hM
       obtain ⟨eb, eo, rfl, ebs, _⟩ := zm em1m (by omega)
       obtain ⟨g0, _⟩ := zL em1m hgt
       go_wp2_with fail
       refine (zR _ _).mono ?_
       rintro e w5 ⟨rfl, rfl⟩
       cases he : srtB x.syms[j + 1].args[g]
       ·have HF := Lib.hid (Sg.okB_no hlt (Sg.okAt_bad hlt (Sy.okB_args (zbw hgt he))))
        have he' : (!srtB x.syms[j + 1].args[g]) = true := by rw [he]; rfl
        go_wp2_with fail
        go_ret
        exact ⟨retB HF.out.symm, hB3.trans (hM.mono (by omega))⟩
       ·have HE := Lib.hid (zaR hgt hallg.out he)
        have he' : (!srtB x.syms[j + 1].args[g]) = false := by rw [he]; rfl
        go_wp2_with fail
        go_roundw
        case rel => exact ⟨g + 1, by omega, by go_num, HE, hM⟩
        case measure => simp [intOf]; omega
      ·have HE := Lib.hid (HFIN.out (by have := hallg.out; rwa [List.take_of_length_le (by omega)] at this))
       go_wp2_with fail
       go_roundw
       case rel => exact ⟨j + 1 + 1, by omega, by go_num, Lib.hid (HALL.out HE.out), hL3.trans (hM.mono (by omega))⟩
       case measure => simp [intOf]; omega
  ·have HE := Lib.hid (Sg.okB_all (by omega) hall.out)
   go_wp2_with fail
   go_ret
   exact ⟨retB (by rw [HE.out]; simp; try omega), hBL⟩
def Sg.find (s : Sg) (n : ByteArray) : Option Sy := s.syms.find? (fun x => decide (x.name = n))
def FindOut (s : Sg) (n : ByteArray) (w : World) (e : Ending) (w' : World) : Prop :=
 ∃ (x : Sy) (ok : Bool) (vs : List Value) (fp : List Nat), e = .returned (.tuple #[.agg vs.toArray, .bool ok]) ∧ RdVs w' x.cd vs fp ∧ ((ok = true ∧ s.find n = some x) ∨ (ok = false ∧ s.find n = none)) ∧ Below w.heap.size w w'
def NotYet (s : Sg) (n : ByteArray) (k : Nat) : Prop := ∀ x ∈ s.syms.take k, ¬ x.name = n
theorem NotYet.succ {s : Sg} {n : ByteArray} {k : Nat} (h : NotYet s n k) (hk : k < s.syms.length) (h' : ¬ s.syms[k].name = n) : NotYet s n (k + 1) := by
 intro x hx; rw [zeq hk] at hx
 rcases zer.1 hx with h1 | h1
 ·exact h x h1
 ·obtain rfl := List.mem_singleton.1 h1; exact h'
theorem NotYet.found {s : Sg} {n : ByteArray} {k : Nat} (h : NotYet s n k) (hk : k < s.syms.length) (h' : s.syms[k].name = n) : s.find n = some s.syms[k] := by
 have e : s.syms = s.syms.take k ++ s.syms[k] :: s.syms.drop (k + 1) := by rw [← List.drop_eq_getElem_cons hk, List.take_append_drop]
 have h2 : ∀ l : List Sy, l = s.syms.take k ++ s.syms[k] :: s.syms.drop (k + 1) → l.find? (fun x => decide (x.name = n)) = some s.syms[k] := by
  intro l hl
  rw [hl, List.find?_append, List.find?_eq_none.2 (fun x hx => by simpa using h x hx)]
  simp only [Option.none_or, List.find?_cons, h', decide_true]
 exact h2 _ e
theorem NotYet.all {s : Sg} {n : ByteArray} {k : Nat} (h : NotYet s n k) (hk : s.syms.length ≤ k) : s.find n = none := by
 unfold NotYet at h; rw [List.take_of_length_le hk] at h
 exact List.find?_eq_none.2 (fun x hx => by simpa using h x hx)
def Sy.zero : Sy := ⟨⟨#[]⟩, [], 0⟩
theorem Sy.zero_rd (w : World) : RdVs w Sy.zero.cd [.string ⟨#[]⟩, .slice none 0 0, .int .i64 0] [] :=
 Sy.close (x := Sy.zero) (a1 := none) (c1 := 0) (Nat.zero_le _) (by simp only [Sy.zero, List.map_nil, Rd]; exact ⟨none, 0, rfl, by simp, by simp [maxLen], by simp⟩) (by unfold I64 Sy.zero; exact ⟨by decide, by decide⟩)
theorem zdV (s : Sg) (n : ByteArray) (vs : List Value) (f : List Nat) (w : World) (hn : n.size ≤ maxLen) (hv : RdVs w s.cd vs f) :
  Calls Tryz.prog 113 #[.agg vs.toArray, .string n] w (FindOut s n w) := by
 obtain ⟨a0, c0, f0, rfl, _, m0⟩ := Sg.open hv
 have hlen := zaB m0
 go_enter Tryz.func113, Tryz.ntmps113
 go_wp2_with fail
 go_loopw [11] (fun i wq => ∃ k : Nat, k ≤ s.syms.length ∧ i = .int .i64 k ∧ Hid (NotYet s n k) ∧ Below (w.heap.size + 1 + 1) ((w.alloc (.cells #[.slice a0 s.syms.length c0] 25)).alloc (.cells #[.string ⟨#[]⟩, .slice none 0 0, .int .i64 0] 102)) wq) (fun i _ => s.syms.length - (intOf i).toNat)
 case atStart => exact ⟨0, Nat.zero_le _, rfl, Lib.hid (fun x hx => by simp at hx), Below.refl _ _⟩
 case round =>
  obtain ⟨k, hkl, rfl, hall, hL⟩ := hrel
  obtain ⟨hxL, hyL, hzL, hBL⟩ := box2 hL
  have hfy := fun j => (zD hL j).2
  have cx := hxL 0
  simp only [zeo, zem, zen] at cx
  by_cases hlt : k < s.syms.length
  ·obtain ⟨b, off, rfl, hbs, _⟩ := zm m0 (by omega)
   have hbz2 : b < wr.heap.size := by omega
   have hz0 : w.heap.size < wr.heap.size := by omega
   have hz1 : w.heap.size + 1 < wr.heap.size := by omega
   obtain ⟨ea1, ec1, ef1, d0', d1', d2', em0, em1, em2, _⟩ := Sy.at m0 hlt
   have d0 := za d0' hBL
   have d1 := za d1' hBL
   have d2 := za d2' hBL
   have hLX := zI (cs := #[.string s.syms[k].name, .slice ea1 s.syms[k].args.length ec1, .int .i64 s.syms[k].sort]) (T := 102) hL (by omega)
   have hBX := zI (cs := #[.string s.syms[k].name, .slice ea1 s.syms[k].args.length ec1, .int .i64 s.syms[k].sort]) (T := 102) hBL (by omega)
   have hsz : (wr.alloc (.cells #[.string s.syms[k].name, .slice ea1 s.syms[k].args.length ec1, .int .i64 s.syms[k].sort] 102)).heap.size = wr.heap.size + 1 := by simp
   by_cases hnm : s.syms[k].name.toList = n.toList
   ·have HF := Lib.hid (hall.out.found hlt (zZ.1 hnm))
    have hres := zaj (zaq (b := w.heap.size + 1) [(0, .string s.syms[k].name), (1, .slice ea1 s.syms[k].args.length ec1), (2, .int .i64 s.syms[k].sort)] hyL (by simp)) (by simp [zA]; omega) (zb _ (.cells #[.string s.syms[k].name, .slice ea1 s.syms[k].args.length ec1, .int .i64 s.syms[k].sort] 102))
    simp only [zA, zb2, zek, zel] at hres
    have hf0 := hfy 0
    have hf1 := hfy 1
    have hf2 := hfy 2
    have y0 := hyL 0
    have y1 := hyL 1
    have y2 := hyL 2
    simp only [zeo, zem, zen] at y0 y1 y2
    have n0 := zv wr #[.string s.syms[k].name, .slice ea1 s.syms[k].args.length ec1, .int .i64 s.syms[k].sort] 102
    clear hyL hfy
    go_wp2_with fail
    refine bodyPost_ret (v := .tuple #[.agg #[.string s.syms[k].name, .slice ea1 s.syms[k].args.length ec1, .int .i64 s.syms[k].sort], .bool true]) (by simp [results, Tryz.results113, go_sem, hres]) rfl ?_
    have hBF := zI (cs := #[.string s.syms[k].name, .slice ea1 s.syms[k].args.length ec1, .int .i64 s.syms[k].sort]) (T := 102) (((hBL.setCell (p := ⟨w.heap.size + 1, 0, none⟩) (by simp) (.string s.syms[k].name)).setCell (p := ⟨w.heap.size + 1, 1, none⟩) (by simp) (.slice ea1 s.syms[k].args.length ec1)).setCell (p := ⟨w.heap.size + 1, 2, none⟩) (by simp) (.int .i64 s.syms[k].sort)) (by simp; omega)
    exact ⟨s.syms[k], true, _, _, rfl, (Sy.close em0 em1 em2).below hBF, .inl ⟨rfl, HF.out⟩, hBF⟩
   ·have HN := Lib.hid (hall.out.succ hlt (fun h => hnm (zZ.2 h)))
    have hnb : (s.syms[k].name.toList == n.toList) = false := by simpa using hnm
    go_wp2_with fail
    go_roundw
    case rel => exact ⟨k + 1, by omega, by go_num, HN, hLX⟩
    case measure => simp [intOf]; omega
  ·have HF := Lib.hid (hall.out.all (by omega))
   have hres := zaq (b := w.heap.size + 1) [(0, .string ⟨#[]⟩), (1, .slice none 0 0), (2, .int .i64 0)] hyL (by simp)
   simp only [zA, zb2, zek, zel] at hres
   have hf0 := hfy 0
   have hf1 := hfy 1
   have hf2 := hfy 2
   go_wp2_with fail
   refine bodyPost_ret (v := .tuple #[.agg #[.string ⟨#[]⟩, .slice none 0 0, .int .i64 0], .bool false]) (by simp [results, Tryz.results113, go_sem, hres]) rfl ?_
   have hBF := ((hBL.setCell (p := ⟨w.heap.size + 1, 0, none⟩) (by simp) (.string ⟨#[]⟩)).setCell (p := ⟨w.heap.size + 1, 1, none⟩) (by simp) (.slice none 0 0)).setCell (p := ⟨w.heap.size + 1, 2, none⟩) (by simp) (.int .i64 0)
   exact ⟨Sy.zero, false, _, _, rfl, Sy.zero_rd _, .inr ⟨rfl, HF.out⟩, hBF⟩
theorem zdW (s : Sg) (n : ByteArray) (vs : List Value) (f : List Nat) (w : World) (hn : n.size ≤ maxLen) (hv : RdVs w s.cd vs f) :
  Calls Tryz.prog 100 #[.agg vs.toArray, .string n] w (FindOut s n w) := by
 obtain ⟨a0, c0, f0, rfl, _, m0⟩ := Sg.open hv
 have hlen := zaB m0
 go_enter Tryz.func100, Tryz.ntmps100
 go_wp2_with fail
 go_loopw [6] (fun i wq => ∃ k : Nat, k ≤ s.syms.length ∧ i = .int .i64 k ∧ Hid (NotYet s n k) ∧ Below (w.heap.size + 1 + 1) ((w.alloc (.cells #[.slice a0 s.syms.length c0] 25)).alloc (.cells #[.string ⟨#[]⟩, .slice none 0 0, .int .i64 0] 102)) wq) (fun i _ => s.syms.length - (intOf i).toNat)
 case atStart => exact ⟨0, Nat.zero_le _, rfl, Lib.hid (fun x hx => by simp at hx), Below.refl _ _⟩
 case round =>
  obtain ⟨k, hkl, rfl, hall, hL⟩ := hrel
  obtain ⟨hxL, hyL, hzL, hBL⟩ := box2 hL
  have hfy := fun j => (zD hL j).2
  have cx := hxL 0
  simp only [zeo, zem, zen] at cx
  by_cases hlt : k < s.syms.length
  ·obtain ⟨b, off, rfl, hbs, _⟩ := zm m0 (by omega)
   have hbz2 : b < wr.heap.size := by omega
   have hz0 : w.heap.size < wr.heap.size := by omega
   have hz1 : w.heap.size + 1 < wr.heap.size := by omega
   obtain ⟨ea1, ec1, ef1, d0', d1', d2', em0, em1, em2, _⟩ := Sy.at m0 hlt
   have d0 := za d0' hBL
   have d1 := za d1' hBL
   have d2 := za d2' hBL
   by_cases hnm : s.syms[k].name.toList = n.toList
   ·have HF := Lib.hid (hall.out.found hlt (zZ.1 hnm))
    have hres := zaq (b := w.heap.size + 1) [(0, .string s.syms[k].name), (1, .slice ea1 s.syms[k].args.length ec1), (2, .int .i64 s.syms[k].sort)] hyL (by simp)
    simp only [zA, zb2, zek, zel] at hres
    have hf0 := hfy 0
    have hf1 := hfy 1
    have hf2 := hfy 2
    have y0 := hyL 0
    have y1 := hyL 1
    have y2 := hyL 2
    simp only [zeo, zem, zen] at y0 y1 y2
    clear hyL hfy
    go_wp2_with fail
    refine bodyPost_ret (v := .tuple #[.agg #[.string s.syms[k].name, .slice ea1 s.syms[k].args.length ec1, .int .i64 s.syms[k].sort], .bool true]) (by simp [results, Tryz.results100, go_sem, hres]) rfl ?_
    have hBF := ((hBL.setCell (p := ⟨w.heap.size + 1, 0, none⟩) (by simp) (.string s.syms[k].name)).setCell (p := ⟨w.heap.size + 1, 1, none⟩) (by simp) (.slice ea1 s.syms[k].args.length ec1)).setCell (p := ⟨w.heap.size + 1, 2, none⟩) (by simp) (.int .i64 s.syms[k].sort)
    exact ⟨s.syms[k], true, _, _, rfl, (Sy.close em0 em1 em2).below hBF, .inl ⟨rfl, HF.out⟩, hBF⟩
   ·have HN := Lib.hid (hall.out.succ hlt (fun h => hnm (zZ.2 h)))
    have hnb : (s.syms[k].name.toList == n.toList) = false := by simpa using hnm
    go_wp2_with fail
    go_roundw
    case rel => exact ⟨k + 1, by omega, by go_num, HN, hL⟩
    case measure => simp [intOf]; omega
  ·have HF := Lib.hid (hall.out.all (by omega))
   have hres := zaq (b := w.heap.size + 1) [(0, .string ⟨#[]⟩), (1, .slice none 0 0), (2, .int .i64 0)] hyL (by simp)
   simp only [zA, zb2, zek, zel] at hres
   have hf0 := hfy 0
   have hf1 := hfy 1
   have hf2 := hfy 2
   go_wp2_with fail
   refine bodyPost_ret (v := .tuple #[.agg #[.string ⟨#[]⟩, .slice none 0 0, .int .i64 0], .bool false]) (by simp [results, Tryz.results100, go_sem, hres]) rfl ?_
   have hBF := ((hBL.setCell (p := ⟨w.heap.size + 1, 0, none⟩) (by simp) (.string ⟨#[]⟩)).setCell (p := ⟨w.heap.size + 1, 1, none⟩) (by simp) (.slice none 0 0)).setCell (p := ⟨w.heap.size + 1, 2, none⟩) (by simp) (.int .i64 0)
   exact ⟨Sy.zero, false, _, _, rfl, Sy.zero_rd _, .inr ⟨rfl, HF.out⟩, hBF⟩
end Go.Proofs.YtlefdhhnlbpbkaaGreat
end
