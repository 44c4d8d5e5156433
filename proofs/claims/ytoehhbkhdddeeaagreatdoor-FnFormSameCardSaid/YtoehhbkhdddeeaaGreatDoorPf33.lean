/- Parts of the proof: Num. -/
import Derived.Test.YtoehhbkhdddeeaaGreatDoorPf27
section
namespace Go.Proofs.YtoehhbkhdddeeaaGreatDoor
open Go Go.RowKit
set_option linter.unusedVariables false
set_option linter.unusedSimpArgs false
set_option maxRecDepth 100000
set_option maxHeartbeats 16000000
def Tm.isNum (s : Sg) (t : Tm) : Bool := t.tsrt s == some 1
theorem Tm.isNum_none {s : Sg} {t : Tm} (h : t.tsrt s = none) : t.isNum s = false := by unfold Tm.isNum; rw [h]; rfl
theorem Tm.isNum_some {s : Sg} {t : Tm} {n : Int} (h : t.tsrt s = some n) : t.isNum s = (n == 1) := by unfold Tm.isNum; rw [h]; rfl
/-- The place of the first of which p is so, or -1. -/
def FirstAt (p : Tm → Bool) (l : List Tm) (n : Int) : Prop := (n = -1 ∧ l.all (fun t => !p t) = true) ∨ ∃ (k : Nat) (h : k < l.length), n = k ∧ p l[k] = true ∧ (l.take k).all (fun t => !p t) = true
theorem FirstAt.neg {p : Tm → Bool} {l : List Tm} {n : Int} (h : FirstAt p l n) : (decide (0 ≤ n)) = !l.all (fun t => !p t) := by
 rcases h with ⟨rfl, h⟩ | ⟨k, hk, rfl, h, _⟩
 ·rw [h]; rfl
 ·have : l.all (fun t => !p t) = false := by rw [List.all_eq_false]; exact ⟨l[k], zdT hk, by simp [h]⟩
  rw [this]; simp
def zZ (s : Sg) (x : Atm) : Bool := s.okB && (x.okB && (if x.kind = 1 then Eqn.okB s ⟨x.a, x.b⟩ else x.nums.all (Tm.isNum s)))
theorem atomB_sig {s : Sg} {x : Atm} (h : s.okB = false) : zZ s x = false := by simp [zZ, h]
theorem zdh {s : Sg} {x : Atm} (h : x.okB = false) : zZ s x = false := by simp [zZ, h]
theorem atomB_eq {s : Sg} {x : Atm} (h : s.okB = true) (h' : x.okB = true) (k : x.kind = 1) : zZ s x = Eqn.okB s ⟨x.a, x.b⟩ := by simp [zZ, h, h', k]
theorem atomB_sum {s : Sg} {x : Atm} (h : s.okB = true) (h' : x.okB = true) (k : ¬ x.kind = 1) : zZ s x = x.nums.all (Tm.isNum s) := by simp [zZ, h, h', k]
theorem Tm.tsrt_of {s : Sg} (h : s.okB = true) {t : Tm} (h' : t.wf = true) : t.tsrt s = t.srt s := Tm.tsrt_yes h h'
theorem zcQ (s : Sg) (x : Atm) (us vs : List Value) (f f' : List Nat) (w : World) (hbig : x.small) (hv : RdVs w s.cd us f') (hx : RdVs w x.cd vs f) :
  Calls Tryz.prog 71 #[.agg us.toArray, .agg vs.toArray] w fun e w' => e = .returned (.bool (zZ s x)) ∧ Below w.heap.size w w' := by
 obtain ⟨a0, c0, f0, rfl, _, n0⟩ := Sg.open hv
 obtain ⟨a2, c2, f2, a4, c4, f4, a5, c5, f5, a6, c6, f6, rfl, _, m0, m1, m2, m3, m4, m5, m6, m7⟩ := Atm.open hx
 go_enter Tryz.func71, Tryz.ntmps71
 go_wp2_with fail
 refine (zbM s _ _ _ (by exact hv.below ((za _ _).alloc (by simp) _))).mono ?_
 rintro e w1 ⟨rfl, hb⟩
 obtain ⟨hs, hy, hz, hB⟩ := box2 (w := w) (wr := w1) (cs := #[.slice a0 s.syms.length c0]) (ds := #[.int .i64 x.kind, .string x.a.name, .slice a2 x.a.kids.length c2, .string x.b.name, .slice a4 x.b.kids.length c4, .slice a5 x.nums.length c5, .slice a6 x.times.length c6, .int .i64 x.bound, .bool x.strict]) (T := 43) (U := 28) (zs hb (by simp))
 clear hb
 have S0 := hs 0
 have C0 := hy 0
 have C1 := hy 1
 have C2 := hy 2
 have C3 := hy 3
 have C4 := hy 4
 have C5 := hy 5
 have C6 := hy 6
 have C7 := hy 7
 have C8 := hy 8
 simp only [zdP, zdN, zdO] at S0 C0 C1 C2 C3 C4 C5 C6 C7 C8
 cases h1 : s.okB
 ·have HF := Lib.hid (atomB_sig (x := x) h1)
  clear h1
  go_wp2_with fail
  go_ret
  exact ⟨retB HF.out.symm, hB⟩
 have H1 := Lib.hid h1
 clear h1
 go_wp2_with fail
 refine (zbv x _ _ _ hbig (by exact hx.below hB)).mono ?_
 rintro e w2 ⟨rfl, hb2⟩
 have hB2 := hB.trans (hb2.mono hB.size)
 cases h2 : x.okB
 ·have HF := Lib.hid (zdh (s := s) h2)
  clear h2
  go_wp2_with fail
  go_ret
  exact ⟨retB HF.out.symm, hB2⟩
 have H2 := Lib.hid h2
 clear h2
 have HWF := Lib.hid (fun t ht => Tm.tsrt_of H1.out (Atm.tms_wf H2.out t ht))
 have HPOS := Lib.hid (fun (t : Tm) (m : Int) (hm : t.srt s = some m) => Tm.srt_pos H1.out hm)
 have S0' := zb S0 hb2
 have C0' := zb C0 hb2
 have C1' := zb C1 hb2
 have C2' := zb C2 hb2
 have C3' := zb C3 hb2
 have C4' := zb C4 hb2
 have C5' := zb C5 hb2
 have C6' := zb C6 hb2
 have C7' := zb C7 hb2
 have C8' := zb C8 hb2
 clear S0 C0 C1 C2 C3 C4 C5 C6 C7 C8 hs hy
 by_cases k1 : x.kind = 1
 ·have tk : (x.kind == 1) = true := by simp [k1]
  have HF := Lib.hid (atomB_eq H1.out H2.out k1)
  have HA : Hid (x.a.tsrt s = x.a.srt s) := Lib.hid (HWF.out x.a (by rw [Atm.tms_eq k1]; simp))
  have HBB : Hid (x.b.tsrt s = x.b.srt s) := Lib.hid (HWF.out x.b (by rw [Atm.tms_eq k1]; simp))
  clear k1
  go_wp2_with fail
  refine (zaT s H1 x.a.size x.a _ _ _ _ _ (Nat.le_refl _) (by exact hv.below hB2) (by exact (Tm.rdv m1 m2).below hB2)).mono ?_
  rintro e w3 ⟨rfl, hb3⟩
  have hB3 := hB2.trans (hb3.mono hB2.size)
  have S3 := zb S0' hb3
  have E3 := zb C3' hb3
  have E4 := zb C4' hb3
  cases ho : x.a.srt s with
  | none =>
   have HG : Hid (zZ s x = false) := Lib.hid (by rw [HF.out]; exact Eqn.okB_a (HA.out.trans ho))
   clear ho
   simp only [Option.getD_none]
   go_wp2_with fail
   go_ret
   exact ⟨retB HG.out.symm, hB3⟩
  | some m =>
   have hm0 := HPOS.out _ _ ho
   have HO := Lib.hid (HA.out.trans ho)
   have tm : decide ((0 : Int) ≤ m) = true := by simp; try omega
   clear ho
   simp only [Option.getD_some]
   go_wp2_with fail
   refine (zaT s H1 x.b.size x.b _ _ _ _ _ (Nat.le_refl _) (by exact hv.below hB3) (by exact (Tm.rdv m3 m4).below hB3)).mono ?_
   rintro e w4 ⟨rfl, hb4⟩
   have hB4 := hB3.trans (hb4.mono hB3.size)
   cases hq : x.b.srt s with
   | none =>
    have HG : Hid (zZ s x = false) := Lib.hid (by rw [HF.out]; exact Eqn.okB_b (HBB.out.trans hq))
    have tq : (m == -1) = false := by simp; omega
    clear hq
    simp only [Option.getD_none]
    go_wp2_with fail
    go_ret
    exact ⟨retB (by rw [HG.out]; try exact tq), hB4⟩
   | some n =>
    have HG := Lib.hid (HF.out.trans (Eqn.okB_ab (e := ⟨x.a, x.b⟩) HO.out (HBB.out.trans hq)))
    clear hq
    simp only [Option.getD_some]
    go_wp2_with fail
    go_ret
    exact ⟨retB HG.out.symm, hB4⟩
 ·have tk : (x.kind == 1) = false := by simp [k1]
  have HF := Lib.hid (atomB_sum H1.out H2.out k1)
  have HN := Lib.hid (fun t (ht : t ∈ x.nums) => HWF.out t (by rw [Atm.tms_sum k1]; exact ht))
  clear k1
  have hlen := zaj m5
  go_wp2_with fail
  go_loopw [6] (fun i wq => ∃ k : Nat, k ≤ x.nums.length ∧ i = .int .i64 k ∧ Hid ((x.nums.take k).all (Tm.isNum s) = true) ∧ Below w2.heap.size w2 wq) (fun i _ => x.nums.length - (intOf i).toNat)
  case atStart => exact ⟨0, Nat.zero_le _, rfl, Lib.hid (by simp), Below.refl _ _⟩
  case round =>
   obtain ⟨k, hkl, rfl, hall, hb⟩ := hrel
   have hBr := hB2.trans (hb.mono hB2.size)
   have S4 := zb S0' hb
   have D5r := zb C5' hb
   by_cases hlt : k < x.nums.length
   ·obtain ⟨b, off, rfl, hbs, _⟩ := zl m5 (by omega)
    obtain ⟨e1, g1, h1, d0, d1, t0, t1, _⟩ := Tm.at (m5.below hBr) hlt
    have hbz : b < wr.heap.size := by have := hBr.size; omega
    have hvr := hv.below hBr
    have htr := Tm.rdv t0 t1
    have HT := Lib.hid (HN.out _ (zdT hlt))
    go_wp2_with fail
    have q0 := cell_regrown S4
    have q1 := cell_regrown D5r
    have q2 := cell_regrown d0
    have q3 := cell_regrown d1
    cases hq : x.nums[k].srt s with
    | none =>
     have HG : Hid (zZ s x = false) := Lib.hid (by rw [HF.out, List.all_eq_false]; exact ⟨x.nums[k], zdT hlt, by rw [Tm.isNum_none (HT.out.trans hq)]; simp⟩)
     have HL := Lib.hid (fun W (hW : Below wr.heap.size wr W) => (zaT s H1 x.nums[k].size x.nums[k] _ _ _ _ W (Nat.le_refl _) (hvr.below hW) (htr.below hW)))
     rw [hq] at HL
     have tq : ((-1 : Int) != 1) = true := rfl
     clear hq
     refine wp_region_quiet_below (by kernel_rfl) (by kernel_rfl) ?_
     repeat (first | go_big_quiet_skip | quiet_step ((go_at_call 78; refine Calls.regrown_of ((HL.out _ (below_regrown _ _ _)).mono (fun e w' h => h)))))
     refine wpQuiet_nil ?_
     intro w9 hw9
     obtain ⟨⟨dq, osq⟩, hw9⟩ := hw9
     have hb9 : Below wr.heap.size wr w9 := hw9 ▸ below_regrown wr dq osq
     clear hw9 q0 q1 q2 q3
     go_wp2_with fail
     go_ret
     exact ⟨retB HG.out.symm, hBr.trans (hb9.mono hBr.size)⟩
    | some n =>
     have HNN := Lib.hid (Tm.isNum_some (HT.out.trans hq))
     have HL := Lib.hid (fun W (hW : Below wr.heap.size wr W) => (zaT s H1 x.nums[k].size x.nums[k] _ _ _ _ W (Nat.le_refl _) (hvr.below hW) (htr.below hW)))
     rw [hq] at HL
     clear hq
     cases hn : (n == 1)
     ·have HG : Hid (zZ s x = false) := Lib.hid (by rw [HF.out, List.all_eq_false]; exact ⟨x.nums[k], zdT hlt, by rw [HNN.out, hn]; simp⟩)
      have tq : (n != 1) = true := by rw [bne, hn]; rfl
      refine wp_region_quiet_below (by kernel_rfl) (by kernel_rfl) ?_
      repeat (first | go_big_quiet_skip | quiet_step ((go_at_call 78; refine Calls.regrown_of ((HL.out _ (below_regrown _ _ _)).mono (fun e w' h => h)))))
      refine wpQuiet_nil ?_
      intro w9 hw9
      obtain ⟨⟨dq, osq⟩, hw9⟩ := hw9
      have hb9 : Below wr.heap.size wr w9 := hw9 ▸ below_regrown wr dq osq
      clear hw9 q0 q1 q2 q3
      go_wp2_with fail
      go_ret
      exact ⟨retB HG.out.symm, hBr.trans (hb9.mono hBr.size)⟩
     ·have HS : Hid ((x.nums.take (k + 1)).all (Tm.isNum s) = true) := Lib.hid (by rw [zdR hlt, List.all_append, hall.out]; simp [HNN.out, hn])
      have tq : (n != 1) = false := by rw [bne, hn]; rfl
      refine wp_region_quiet_below (by kernel_rfl) (by kernel_rfl) ?_
      repeat (first | go_big_quiet_skip | quiet_step ((go_at_call 78; refine Calls.regrown_of ((HL.out _ (below_regrown _ _ _)).mono (fun e w' h => h)))))
      refine wpQuiet_nil ?_
      intro w9 hw9
      obtain ⟨⟨dq, osq⟩, hw9⟩ := hw9
      have hb9 : Below wr.heap.size wr w9 := hw9 ▸ below_regrown wr dq osq
      clear hw9 q0 q1 q2 q3
      go_wp2_with fail
      go_roundw
      case rel => exact ⟨k + 1, by omega, by go_num, HS, hb.trans (hb9.mono hb.size)⟩
      case measure => simp [intOf]; omega
   ·have HG : Hid (zZ s x = true) := Lib.hid (by have h := hall.out; rw [List.take_of_length_le (by omega)] at h; rw [HF.out, h])
    go_wp2_with fail
    go_ret
    exact ⟨retB HG.out.symm, hBr⟩
end Go.Proofs.YtoehhbkhdddeeaaGreatDoor
end
