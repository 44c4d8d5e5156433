/- Parts of the proof: AtomT. -/
import Derived.Lib.ItoaLen
import Derived.Lib.LaidTab
import Derived.BigQuiet
import Derived.Test.YtoehhbkhdddeeaaGreatDoorPf22
import Derived.Test.YtoehhbkhdddeeaaGreatDoorPf23
import Derived.Test.YtoehhbkhdddeeaaGreatDoorPf39
section
namespace Go.Proofs.YtoehhbkhdddeeaaGreatDoor
open Go Go.RowKit
set_option linter.unusedVariables false
set_option linter.unusedSimpArgs false
set_option maxRecDepth 100000
set_option maxHeartbeats 16000000
/-- The library's table lies as its text lays it. -/
def Tab9 (w : World) : Prop := Lib.TabIs Tryz.prog w "internal/strconv.uint64pow10" .u64 Lib.pow10Tab
theorem tab_glob : (Tryz.prog.globalNamed "internal/strconv.uint64pow10").isSome = true := by kernel_rfl
theorem Tab9.below {w w' : World} (h : Tab9 w) (hb : Below w.heap.size w w') : Tab9 w' := by
 obtain ⟨g, hg⟩ := Option.isSome_iff_exists.1 tab_glob
 unfold Tab9 Lib.TabIs World.var? at h ⊢
 rw [hg] at h ⊢
 simp only [Option.bind_some] at h ⊢
 have hlt : g < w.heap.size := by
  rcases Nat.lt_or_ge g w.heap.size with h' | h'
  ·exact h'
  ·rw [Array.getElem?_eq_none h'] at h; cases h
 rw [hb.block g hlt]
 exact h
def dec9 (n : Int) : ByteArray := ⟨(Lib.itoa n).toArray⟩
theorem zaX {n : Int} (h : I64 n) : (dec9 n).size ≤ 21 := by
 have := Lib.itoa_length_le n h.1 h.2
 simpa [dec9, ByteArray.size] using this
theorem zdk (n : Int) (hn : I64 n) (w : World) (h : Tab9 w) : Calls Tryz.prog 60 #[.int .i64 n] w fun e w' => e = .returned (.string (dec9 n)) ∧ Below w.heap.size w w' := by
 refine (Tryz.strconv_Itoa n hn.1 hn.2 w h).mono ?_
 rintro e w' ⟨rfl, k, os, rfl⟩
 exact ⟨rfl, rfl, rfl, rfl, by simp [Sort.grow, World.drewN], fun j hj => by simp [Sort.grow, World.drewN, Array.getElem?_append, hj]⟩
def sgnT (b : Bool) : ByteArray := if b = true then ⟨#[60]⟩ else ⟨#[60, 61]⟩
theorem zcp (b : Bool) : (sgnT b).size ≤ 2 := by cases b <;> decide
theorem sign_any (b : Bool) (w : World) : Calls Tryz.prog 61 #[.bool b] w fun e w' => e = .returned (.string (sgnT b)) ∧ Below w.heap.size w w' := by
 cases b
 ·go_enter Tryz.func61, Tryz.ntmps61
  go_wp2_with fail
  go_ret
  exact ⟨rfl, Below.refl _ _⟩
 ·go_enter Tryz.func61, Tryz.ntmps61
  go_wp2_with fail
  go_ret
  exact ⟨rfl, Below.refl _ _⟩
/-- The sum up to a number. -/
def Atm.sumT (x : Atm) : Nat → ByteArray
 | 0 => ⟨#[]⟩
 | k + 1 => x.sumT k ++ (((dec9 (x.times.getD k 0) ++ ⟨#[42]⟩) ++ (x.nums.getD k ⟨⟨#[]⟩, []⟩).text) ++ ⟨#[32]⟩)
def Atm.text (x : Atm) : ByteArray := if x.kind = 1 then (x.a.text ++ ⟨#[61]⟩) ++ x.b.text else ((x.sumT x.nums.length ++ sgnT x.strict) ++ ⟨#[32]⟩) ++ dec9 x.bound
theorem Atm.sumT_succ {x : Atm} {k : Nat} (h : k < x.nums.length) (h' : k < x.times.length) : x.sumT (k + 1) = x.sumT k ++ (((dec9 x.times[k] ++ ⟨#[42]⟩) ++ x.nums[k].text) ++ ⟨#[32]⟩) := by
 simp [Atm.sumT, List.getD_eq_getElem?_getD, List.getElem?_eq_getElem h, List.getElem?_eq_getElem h']
theorem Atm.okB_kind {x : Atm} (h : x.okB = true) : x.kind = 1 ∧ x.eqB = true ∨ ¬ x.kind = 1 ∧ x.kind = 2 ∧ x.sumB = true := by
 unfold Atm.okB at h
 split at h
 ·rename_i h1; exact .inl ⟨h1, h⟩
 ·split at h
  ·rename_i h1 h2; exact .inr ⟨h1, h2, h⟩
  ·cases h
theorem zcq (x : Atm) (hok : x.okB = true) (vs : List Value) (f : List Nat) (w : World) (hbig : x.small) (hv : RdVs w x.cd vs f) (htab : Tab9 w) :
  Calls Tryz.prog 40 #[.agg vs.toArray] w fun e w' => e = .returned (.string x.text) ∧ Below w.heap.size w w' := by
 obtain ⟨a2, c2, f2, a4, c4, f4, a5, c5, f5, a6, c6, f6, rfl, _, m0, m1, m2, m3, m4, m5, m6, m7⟩ := Atm.open hv
 have hX := Box.new w [.int .i64 x.kind, .string x.a.name, .slice a2 x.a.kids.length c2, .string x.b.name, .slice a4 x.b.kids.length c4, .slice a5 x.nums.length c5, .slice a6 x.times.length c6, .int .i64 x.bound, .bool x.strict] 28
 have hb0 := za w (.cells #[.int .i64 x.kind, .string x.a.name, .slice a2 x.a.kids.length c2, .string x.b.name, .slice a4 x.b.kids.length c4, .slice a5 x.nums.length c5, .slice a6 x.times.length c6, .int .i64 x.bound, .bool x.strict] 28)
 have hsm := hbig
 unfold Atm.small at hsm
 rcases Atm.okB_kind hok with ⟨k1, he⟩ | ⟨k1, k2, hs⟩
 ·have tk : (x.kind == 1) = true := by simp [k1]
  have HT := Lib.hid (show x.text = (x.a.text ++ ⟨#[61]⟩) ++ x.b.text by unfold Atm.text; rw [if_pos k1])
  simp only [Atm.eqB, zdY] at he
  obtain ⟨hwa, hwb, _⟩ := he
  have hza := Tm.wf_text hwa
  have hzb := Tm.wf_text hwb
  have h61 : (⟨#[61]⟩ : ByteArray).size = 1 := rfl
  have HA : Hid (∀ W, Below w.heap.size w W → Calls Tryz.prog 54 #[.agg #[.string x.a.name, .slice a2 x.a.kids.length c2]] W fun e w' => e = .returned (.string x.a.text) ∧ Below W.heap.size W w') := Lib.hid (fun W hW => zM _ x.a 4 _ _ (Nat.le_refl _) hsm.1 (Tm.wf_shape hwa) (TmR.mk m1 ⟨f2, m2.below hW⟩))
  have HB : Hid (∀ W, Below w.heap.size w W → Calls Tryz.prog 54 #[.agg #[.string x.b.name, .slice a4 x.b.kids.length c4]] W fun e w' => e = .returned (.string x.b.text) ∧ Below W.heap.size W w') := Lib.hid (fun W hW => zM _ x.b 4 _ _ (Nat.le_refl _) hsm.2.1 (Tm.wf_shape hwb) (TmR.mk m3 ⟨f4, m4.below hW⟩))
  generalize x.a.text = ta at *
  generalize x.b.text = tb at *
  obtain ⟨y1, hy1⟩ : ∃ y, ta ++ ((⟨#[61]⟩ : ByteArray)) = y := ⟨_, rfl⟩
  have hs1 : y1.size ≤ 48 + 1 := by rw [← hy1, ByteArray.size_append]; omega
  have ha1 := zv Tryz.prog ta ((⟨#[61]⟩ : ByteArray)) (by omega)
  rw [hy1] at ha1
  have hno1 : ¬ (ta.size + ((⟨#[61]⟩ : ByteArray)).size > 9223372036854775807) := by omega
  obtain ⟨y2, hy2⟩ : ∃ y, y1 ++ tb = y := ⟨_, rfl⟩
  have hs2 : y2.size ≤ 49 + 48 := by rw [← hy2, ByteArray.size_append]; omega
  have ha2 := zv Tryz.prog y1 tb (by omega)
  rw [hy2] at ha2
  have hno2 : ¬ (y1.size + tb.size > 9223372036854775807) := by omega
  have HT2 : Hid (x.text = y2) := Lib.hid (by rw [HT.out, hy1, hy2])
  clear k1 hy1 hy2 HT
  go_enter Tryz.func40, Tryz.ntmps40
  go_upto_region 2 with fail
  generalize w.alloc (.cells #[.int .i64 x.kind, .string x.a.name, .slice a2 x.a.kids.length c2, .string x.b.name, .slice a4 x.b.kids.length c4, .slice a5 x.nums.length c5, .slice a6 x.times.length c6, .int .i64 x.bound, .bool x.strict] 28) = w0 at *
  have q1 := cell_regrown (hX.2.1 1 _ rfl); have q2 := cell_regrown (hX.2.1 2 _ rfl); have q3 := cell_regrown (hX.2.1 3 _ rfl); have q4 := cell_regrown (hX.2.1 4 _ rfl)
  have hz0 := hb0.size
  refine wp_region_quiet_below (by kernel_rfl) (by kernel_rfl) ?_
  repeat (first | go_big_quiet_skip | quiet_step (first | (go_at_call 54; with_reducible refine Calls.regrown_of (HA.out _ (hb0.trans ((below_regrown _ _ _).mono hz0)))) | (go_at_call 54; with_reducible refine Calls.regrown_of (HB.out _ (hb0.trans ((below_regrown _ _ _).mono hz0))))))
  refine wpQuiet_nil ?_
  intro w9 hw9
  obtain ⟨⟨dq, osq⟩, hw9⟩ := hw9
  have hb9 : Below w0.heap.size w0 w9 := hw9 ▸ below_regrown w0 dq osq
  clear hw9 q1 q2 q3 q4
  go_wp2_with fail
  go_ret
  exact ⟨by rw [HT2.out]; rfl, hb0.trans (hb9.mono hz0)⟩
 ·have tk : (x.kind == 1) = false := by simp [k1]
  have HT := Lib.hid (show x.text = ((x.sumT x.nums.length ++ sgnT x.strict) ++ ⟨#[32]⟩) ++ dec9 x.bound by unfold Atm.text; rw [if_neg k1])
  have HKE := Atm.okB_sum k2
  rw [hok] at HKE
  have hs1 := HKE.symm
  have HWF := Lib.hid (Atm.sum_wf hs1)
  simp only [Atm.sumB, Atm.hdB, zdY, decide_eq_true_eq] at hs1
  have hn4 : x.nums.length ≤ 4 := hs1.1.2.2.2.1.2
  have HNT : Hid (x.nums.length = x.times.length) := Lib.hid hs1.1.2.2.1
  have z42 : (⟨#[42]⟩ : ByteArray).size = 1 := rfl
  have z32 : (⟨#[32]⟩ : ByteArray).size = 1 := rfl
  have hlen5 := zaj m5
  clear hs hs1 HKE hok k1 k2 m1 m2 m3 m4
  go_enter Tryz.func40, Tryz.ntmps40
  go_upto_region 3 with fail
  generalize w.alloc (.cells #[.int .i64 x.kind, .string x.a.name, .slice a2 x.a.kids.length c2, .string x.b.name, .slice a4 x.b.kids.length c4, .slice a5 x.nums.length c5, .slice a6 x.times.length c6, .int .i64 x.bound, .bool x.strict] 28) = w0 at *
  have x5 := hX.2.1 5 _ rfl
  go_wp2_with fail
  clear x5
  go_loopw [3, 20] (fun ov i wq => ∃ k : Nat, k ≤ x.nums.length ∧ i = .int .i64 k ∧ ov = .string (x.sumT k) ∧ (x.sumT k).size ≤ 72 * k ∧ Below w0.heap.size w0 wq) (fun _ i _ => x.nums.length - (intOf i).toNat)
  case atStart => exact ⟨0, Nat.zero_le _, rfl, rfl, Nat.le_refl 0, Below.refl _ _⟩
  case round =>
   obtain ⟨k, hkl, rfl, rfl, hsk, hb⟩ := hrel
   have hXk := hX.below hb
   have hz0 := hb0.size
   have hB := hb0.trans (hb.mono hz0)
   have hTab := htab.below hB
   by_cases hlt : k < x.nums.length
   ·skip
    have hlt' : k < x.times.length := by have := HNT.out; omega
    obtain ⟨b, off, rfl, hbs, _⟩ := zl m5 (by omega)
    obtain ⟨b', off', rfl, hbs', _⟩ := zl m6 (by omega)
    obtain ⟨e1, g1, h1, d0, d1, t0, t1, _⟩ := Tm.at (m5.below hB) hlt
    obtain ⟨n0, n1⟩ := zK (m6.below hB) hlt'
    have hwf := HWF.out _ (zdT hlt)
    have hzt := Tm.wf_text hwf
    have hzn := zaX n1
    have HS := Lib.hid (Atm.sumT_succ hlt hlt')
    have hbox := Box.new wr [.string x.nums[k].name, .slice e1 x.nums[k].kids.length g1] 25
    have hbw := za wr (.cells #[.string x.nums[k].name, .slice e1 x.nums[k].kids.length g1] 25)
    have HA : Hid (∀ W, Below wr.heap.size wr W → Calls Tryz.prog 54 #[.agg #[.string x.nums[k].name, .slice e1 x.nums[k].kids.length g1]] W fun e w' => e = .returned (.string x.nums[k].text) ∧ Below W.heap.size W w') := Lib.hid (fun W hW => zM _ x.nums[k] 4 _ _ (Nat.le_refl _) (Nat.le_trans (Tm.wf_size hwf) (by omega)) (Tm.wf_shape hwf) ((TmR.mk t0 ⟨h1, t1⟩).below hW))
    have HN : Hid (∀ W, Below wr.heap.size wr W → Calls Tryz.prog 60 #[.int .i64 x.times[k]] W fun e w' => e = .returned (.string (dec9 x.times[k])) ∧ Below W.heap.size W w') := Lib.hid (fun W hW => zdk _ n1 W (hTab.below hW))
    generalize x.nums[k].text = tt at *
    generalize dec9 x.times[k] = dd at *
    generalize x.sumT k = so at *
    have hso : so.size ≤ 288 := by omega
    obtain ⟨z1, hy3⟩ : ∃ y, dd ++ ((⟨#[42]⟩ : ByteArray)) = y := ⟨_, rfl⟩
    have hs3 : z1.size ≤ 21 + 1 := by rw [← hy3, ByteArray.size_append]; omega
    have ha3 := zv Tryz.prog dd ((⟨#[42]⟩ : ByteArray)) (by omega)
    rw [hy3] at ha3
    have hno3 : ¬ (dd.size + ((⟨#[42]⟩ : ByteArray)).size > 9223372036854775807) := by omega
    obtain ⟨z2, hy4⟩ : ∃ y, z1 ++ tt = y := ⟨_, rfl⟩
    have hs4 : z2.size ≤ 22 + 48 := by rw [← hy4, ByteArray.size_append]; omega
    have ha4 := zv Tryz.prog z1 tt (by omega)
    rw [hy4] at ha4
    have hno4 : ¬ (z1.size + tt.size > 9223372036854775807) := by omega
    obtain ⟨z3, hy5⟩ : ∃ y, z2 ++ ((⟨#[32]⟩ : ByteArray)) = y := ⟨_, rfl⟩
    have hs5 : z3.size ≤ 70 + 1 := by rw [← hy5, ByteArray.size_append]; omega
    have ha5 := zv Tryz.prog z2 ((⟨#[32]⟩ : ByteArray)) (by omega)
    rw [hy5] at ha5
    have hno5 : ¬ (z2.size + ((⟨#[32]⟩ : ByteArray)).size > 9223372036854775807) := by omega
    obtain ⟨z4, hy6⟩ : ∃ y, so ++ z3 = y := ⟨_, rfl⟩
    have hs6 : z4.size ≤ so.size + 71 := by rw [← hy6, ByteArray.size_append]; omega
    have ha6 := zv Tryz.prog so z3 (by omega)
    rw [hy6] at ha6
    have hno6 : ¬ (so.size + z3.size > 9223372036854775807) := by omega
    have HS2 : Hid (x.sumT (k + 1) = z4) := Lib.hid (by rw [HS.out, hy3, hy4, hy5, hy6])
    clear hy3 hy4 hy5 hy6 HS
    go_upto_region 7 with fail
    generalize wr.alloc (.cells #[.string x.nums[k].name, .slice e1 x.nums[k].kids.length g1] 25) = w2 at *
    have q1 := cell_regrown (hbox.2.1 0 _ rfl); have q2 := cell_regrown (hbox.2.1 1 _ rfl); have q3 := cell_regrown ((hXk.below hbw).2.1 6 _ rfl); have q4 := cell_regrown (zb n0 hbw)
    have hz2 := hbw.size
    refine wp_region_quiet_below (by kernel_rfl) (by kernel_rfl) ?_
    repeat (first | go_big_quiet_skip | quiet_step (first | (go_at_call 54; with_reducible refine Calls.regrown_of (HA.out _ (hbw.trans ((below_regrown _ _ _).mono hz2)))) | (go_at_call 60; with_reducible refine Calls.regrown_of (HN.out _ (hbw.trans ((below_regrown _ _ _).mono hz2))))))
    refine wpQuiet_nil ?_
    intro w9 hw9
    obtain ⟨⟨dq, osq⟩, hw9⟩ := hw9
    have hb9 : Below w2.heap.size w2 w9 := hw9 ▸ below_regrown w2 dq osq
    clear hw9 q1 q2 q3 q4
    go_wp2_with fail
    go_roundw
    case rel => exact ⟨k + 1, by omega, by go_num, by rw [HS2.out], by rw [HS2.out]; omega, hb.trans ((hbw.trans (hb9.mono hz2)).mono hb.size)⟩
    case measure => simp [intOf]; omega
   ·skip
    have hke : k = x.nums.length := by omega
    subst hke
    have HN : Hid (∀ W, Below wr.heap.size wr W → Calls Tryz.prog 60 #[.int .i64 x.bound] W fun e w' => e = .returned (.string (dec9 x.bound)) ∧ Below W.heap.size W w') := Lib.hid (fun W hW => zdk _ m7 W (hTab.below hW))
    have hzn := zaX m7
    have hzs := zcp x.strict
    have HG : Hid (∀ W, Calls Tryz.prog 61 #[.bool x.strict] W fun e w' => e = .returned (.string (sgnT x.strict)) ∧ Below W.heap.size W w') := Lib.hid (sign_any x.strict)
    generalize sgnT x.strict = sg at *
    generalize dec9 x.bound = dd at *
    generalize x.sumT x.nums.length = so at *
    have hso : so.size ≤ 288 := by omega
    obtain ⟨z1, hy3⟩ : ∃ y, so ++ sg = y := ⟨_, rfl⟩
    have hs3 : z1.size ≤ 288 + 2 := by rw [← hy3, ByteArray.size_append]; omega
    have ha3 := zv Tryz.prog so sg (by omega)
    rw [hy3] at ha3
    have hno3 : ¬ (so.size + sg.size > 9223372036854775807) := by omega
    obtain ⟨z2, hy4⟩ : ∃ y, z1 ++ ((⟨#[32]⟩ : ByteArray)) = y := ⟨_, rfl⟩
    have hs4 : z2.size ≤ 290 + 1 := by rw [← hy4, ByteArray.size_append]; omega
    have ha4 := zv Tryz.prog z1 ((⟨#[32]⟩ : ByteArray)) (by omega)
    rw [hy4] at ha4
    have hno4 : ¬ (z1.size + ((⟨#[32]⟩ : ByteArray)).size > 9223372036854775807) := by omega
    obtain ⟨z3, hy5⟩ : ∃ y, z2 ++ dd = y := ⟨_, rfl⟩
    have hs5 : z3.size ≤ 291 + 21 := by rw [← hy5, ByteArray.size_append]; omega
    have ha5 := zv Tryz.prog z2 dd (by omega)
    rw [hy5] at ha5
    have hno5 : ¬ (z2.size + dd.size > 9223372036854775807) := by omega
    have HT2 : Hid (x.text = z3) := Lib.hid (by rw [HT.out, hy3, hy4, hy5])
    clear hy3 hy4 hy5 HT
    go_upto_region 9 with fail
    have q1 := cell_regrown (hXk.2.1 7 _ rfl); have q2 := cell_regrown (hXk.2.1 8 _ rfl)
    refine wp_region_quiet_below (by kernel_rfl) (by kernel_rfl) ?_
    repeat (first | go_big_quiet_skip | quiet_step (first | (go_at_call 61; with_reducible refine Calls.regrown_of (HG.out _)) | (go_at_call 60; with_reducible refine Calls.regrown_of (HN.out _ (below_regrown _ _ _)))))
    refine wpQuiet_nil ?_
    intro w9 hw9
    obtain ⟨⟨dq, osq⟩, hw9⟩ := hw9
    have hb9 : Below wr.heap.size wr w9 := hw9 ▸ below_regrown wr dq osq
    clear hw9 q1 q2
    go_wp2_with fail
    go_ret
    exact ⟨by rw [HT2.out]; rfl, hB.trans (hb9.mono hB.size)⟩
end Go.Proofs.YtoehhbkhdddeeaaGreatDoor
end
