/- Parts of the proof: FormZ1. -/
import Derived.Laws.BytesArg
import Derived.Test.YtoehhbkhdddeeaaDoorPx31
import Derived.Test.YtoehhbkhdddeeaaDoorPx32
import Derived.Test.YtoehhbkhdddeeaaDoorPx9
import Derived.Test.YtoehhbkhdddeeaaDoorPx35
section
namespace Go.Proofs.YtoehhbkhdddeeaaDoor
open Go Go.RowKit
set_option linter.unusedVariables false
set_option linter.unusedSimpArgs false
set_option maxRecDepth 100000
set_option maxHeartbeats 16000000
theorem str_one (u : Nat) (h : u < 10) : strOfNums [48 + (u : Int)] = ⟨#[UInt8.ofNat (48 + u)]⟩ := by
 simp only [strOfNums, List.map_cons, List.map_nil]; rw [show (48 + (u : Int)).toNat = 48 + u from by omega]
theorem dec_step (kk : Nat) (h : 9 < kk) : Lib.decDigits kk = Lib.decDigits (kk / 10) ++ [UInt8.ofNat (48 + kk % 10)] := by
 rw [Lib.decDigits, dif_neg (by omega)]
theorem dec_last (kk : Nat) (h : ¬ 9 < kk) : Lib.decDigits kk = [UInt8.ofNat (48 + kk)] := by
 rw [Lib.decDigits, dif_pos (by omega)]
theorem za3 (n : Nat) (hn : n ≤ 1000000000000) (w : World) : Calls Tryd.prog 124 #[.int .i64 n] w fun e w' => e = .returned (.string ⟨(Lib.decDigits n).toArray⟩) ∧ Below w.heap.size w w' := by
 have HL : Hid ((Lib.decDigits n).length ≤ 21) := Lib.hid (by
  have h := Lib.itoa_length_le (n : Int) (by omega) (by omega)
  rw [show Lib.itoa (n : Int) = Lib.decDigits n from by unfold Lib.itoa; rw [if_neg (by omega)]; simp] at h
  exact h)
 go_enter Tryd.func124, Tryd.ntmps124
 go_wp2
 go_loopw [0, 3] (fun kv ov wr => ∃ (kk : Nat) (l : List UInt8), kv = .int .i64 kk ∧ ov = .string ⟨l.toArray⟩ ∧ kk ≤ n ∧ l.length ≤ 21 ∧ Hid (Lib.decDigits kk ++ l = Lib.decDigits n) ∧ Below w.heap.size w wr) (fun kv _ _ => (intOf kv).toNat)
 case atStart => exact ⟨n, [], rfl, rfl, Nat.le_refl _, by simp, Lib.hid (by simp), Below.refl _ _⟩
 case round =>
  obtain ⟨kk, l, rfl, rfl, hkn, hl, hm, hb⟩ := hrel
  by_cases hk : 9 < kk
  ·have hcv := run_convert_bytes_arg (P := Tryd.prog) (wr.alloc (.cells #[.int .u8 (48 + (kk : Int) % 10)] 5)) 22 5 Tryd.underlying22 Tryd.underlying5 wr.heap.size 0 1 1 [48 + (kk : Int) % 10] rfl
    (fun i hi => by (obtain rfl : i = 0 := by omega); exact zu _ _ _ 0) 9 Tryd.underlying9
   have hsz : ¬ 9223372036854775807 < (strOfNums [48 + (kk : Int) % 10]).size + l.length := by rw [strOfNums_size]; simp; omega
   have HM : Hid (Lib.decDigits (kk / 10) ++ (UInt8.ofNat (48 + kk % 10) :: l) = Lib.decDigits n) := Lib.hid (by rw [← hm.out, dec_step kk hk]; simp)
   have HLL : Hid (l.length + 1 ≤ 21) := Lib.hid (by have h := congrArg List.length HM.out; have h2 := HL.out; simp only [zcn, List.length_cons] at h; omega)
   go_wp2
   go_roundw
   case rel =>
    refine ⟨kk / 10, UInt8.ofNat (48 + kk % 10) :: l, by go_num, ?_, by omega, HLL.out, HM, hb.alloc hb.size _⟩
    ·refine congrArg Value.string (zY.1 ?_)
     rw [show strOfNums [48 + (kk : Int) % 10] = ⟨[UInt8.ofNat (48 + kk % 10)].toArray⟩ from by simp only [strOfNums, List.map_cons, List.map_nil]; rw [show (48 + (kk : Int) % 10).toNat = 48 + kk % 10 from by omega]]
     rw [ByteArray.toList_eq, ByteArray.toList_eq, ByteArray.data_append]
     simp
   case measure => simp [intOf]; omega
  ·have hcv := run_convert_bytes_arg (P := Tryd.prog) (wr.alloc (.cells #[.int .u8 (48 + (kk : Int))] 5)) 22 5 Tryd.underlying22 Tryd.underlying5 wr.heap.size 0 1 1 [48 + (kk : Int)] rfl
    (fun i hi => by (obtain rfl : i = 0 := by omega); exact zu _ _ _ 0) 9 Tryd.underlying9
   have hsz : ¬ 9223372036854775807 < (strOfNums [48 + (kk : Int)]).size + l.length := by rw [strOfNums_size]; simp; omega
   have HM : Hid (UInt8.ofNat (48 + kk) :: l = Lib.decDigits n) := Lib.hid (by rw [← hm.out, dec_last kk hk]; simp)
   have HK := Lib.hid (show kk < 10 by omega)
   go_wp2
   go_ret
   refine ⟨retS ?_, hb.alloc hb.size _⟩
   rw [str_one kk HK.out, ← HM.out]
   refine zY.1 ?_
   rw [ByteArray.toList_eq, ByteArray.toList_eq, ByteArray.data_append]
   simp
theorem za4 (n : Int) (hn : -1000000 ≤ n ∧ n ≤ 1000000) (w : World) : Calls Tryd.prog 124 #[.int .i64 n] w fun e w' => e = .returned (.string (dec9 n)) ∧ Below w.heap.size w w' := by
 by_cases h : n < 0
 ·obtain ⟨m, hm⟩ : ∃ m : Nat, -n = m := ⟨(-n).toNat, by omega⟩
  have HC := Lib.hid (za3 m (by omega) w)
  have HL : Hid ((Lib.decDigits m).length ≤ 21) := Lib.hid (by
   have h := Lib.itoa_length_le (m : Int) (by omega) (by omega)
   rw [show Lib.itoa (m : Int) = Lib.decDigits m from by unfold Lib.itoa; rw [if_neg (by omega)]; simp] at h
   exact h)
  have HD : Hid (dec9 n = ⟨#[45]⟩ ++ ⟨(Lib.decDigits m).toArray⟩) := Lib.hid (by
   unfold dec9 Lib.itoa
   rw [if_pos h, show n.natAbs = m by omega]
   refine Tm.bytes_eq ?_
   simp [ByteArray.data_append])
  have hsz : ((⟨(Lib.decDigits m).toArray⟩ : ByteArray)).size ≤ 21 := by simpa [ByteArray.size] using HL.out
  have z1 : (⟨#[45]⟩ : ByteArray).size = 1 := rfl
  generalize (⟨(Lib.decDigits m).toArray⟩ : ByteArray) = tx at *
  have ha1 := zh Tryd.prog ⟨#[45]⟩ tx (by omega)
  rw [← HD.out] at ha1
  have hno1 : ¬ ((⟨#[45]⟩ : ByteArray).size + tx.size > 9223372036854775807) := by omega
  have hmn : n = -(m : Int) := by omega
  clear HL HD
  go_enter Tryd.func124, Tryd.ntmps124
  go_wp2_with fail
  refine HC.out.mono ?_
  rintro e w1 ⟨rfl, hb1⟩
  go_wp2_with fail
  go_ret
  exact ⟨by rw [hmn]; rfl, hb1⟩
 ·obtain ⟨m, rfl⟩ := Int.eq_ofNat_of_zero_le (Int.not_lt.1 h)
  refine (za3 m (by omega) w).mono ?_
  rintro e w1 ⟨rfl, hb1⟩
  refine ⟨?_, hb1⟩
  unfold dec9 Lib.itoa
  rw [if_neg h]
  simp
theorem Atm.okB_small {x : Atm} (h : x.okB = true) : (∀ j (hj : j < x.times.length), -1000 ≤ x.times[j] ∧ x.times[j] ≤ 1000) ∧ (-1000 ≤ x.bound ∧ x.bound ≤ 1000) := by
 rcases Atm.okB_kind h with ⟨_, he⟩ | ⟨_, _, hs⟩
 ·simp only [Atm.eqB, zcr, beq_iff_eq] at he
  have h1 := he.2.2.2.1
  have h2 := he.2.2.2.2.1
  exact ⟨fun j hj => by omega, by omega⟩
 ·simp only [Atm.sumB, Atm.hdB, zcr, decide_eq_true_eq, List.all_eq_true, List.mem_range] at hs
  have hnt : x.nums.length = x.times.length := hs.1.2.2.1
  refine ⟨fun j hj => ?_, hs.1.2.2.2.2⟩
  have h1 := hs.2 j (by omega)
  rw [Atm.num_eq (by omega) hj] at h1
  simp only [zcr, decide_eq_true_eq] at h1
  have h2 := h1.2.1
  omega
theorem za9 (x : Atm) (vs : List Value) (f : List Nat) (w : World) (hbig : x.small) (hv : RdVs w x.cd vs f) :
  Calls Tryd.prog 107 #[.agg vs.toArray] w fun e w' => e = .returned (.string (if x.okB = true then x.text else ⟨#[]⟩)) ∧ Below w.heap.size w w' := by
 obtain ⟨a2, c2, f2, a4, c4, f4, a5, c5, f5, a6, c6, f6, rfl, _, m0, m1, m2, m3, m4, m5, m6, m7⟩ := Atm.open hv
 have hX := Box.new w [.int .i64 x.kind, .string x.a.name, .slice a2 x.a.kids.length c2, .string x.b.name, .slice a4 x.b.kids.length c4, .slice a5 x.nums.length c5, .slice a6 x.times.length c6, .int .i64 x.bound, .bool x.strict] 28
 have hb0 := za w (.cells #[.int .i64 x.kind, .string x.a.name, .slice a2 x.a.kids.length c2, .string x.b.name, .slice a4 x.b.kids.length c4, .slice a5 x.nums.length c5, .slice a6 x.times.length c6, .int .i64 x.bound, .bool x.strict] 28)
 have hsm := hbig
 unfold Atm.small at hsm
 obtain ⟨r, hr⟩ : ∃ r, (if x.okB = true then x.text else ⟨#[]⟩) = r := ⟨_, rfl⟩
 rw [hr]
 have HR := Lib.hid hr
 clear hr
 go_enter Tryd.func107, Tryd.ntmps107
 go_upto_region 1 with fail
 generalize w.alloc (.cells #[.int .i64 x.kind, .string x.a.name, .slice a2 x.a.kids.length c2, .string x.b.name, .slice a4 x.b.kids.length c4, .slice a5 x.nums.length c5, .slice a6 x.times.length c6, .int .i64 x.bound, .bool x.strict] 28) = w00 at *
 have x0 := hX.2.1 0 _ rfl; have x1 := hX.2.1 1 _ rfl; have x2 := hX.2.1 2 _ rfl; have x3 := hX.2.1 3 _ rfl; have x4 := hX.2.1 4 _ rfl; have x5 := hX.2.1 5 _ rfl; have x6 := hX.2.1 6 _ rfl; have x7 := hX.2.1 7 _ rfl; have x8 := hX.2.1 8 _ rfl
 go_wp2_with fail
 refine (zaP x _ _ _ hbig (by exact hv.below hb0)).mono ?_
 rintro e w0 ⟨rfl, hb1⟩
 replace hb0 := hb0.trans (hb1.mono hb0.size)
 replace hX := hX.below hb1
 clear hb1 x0 x1 x2 x3 x4 x5 x6 x7 x8
 cases hok : x.okB
 ·have HR2 : Hid (r = ⟨#[]⟩) := Lib.hid (by rw [← HR.out, if_neg (by rw [hok]; decide)])
  go_wp2_with fail
  go_ret
  exact ⟨by rw [HR2.out]; rfl, hb0⟩
 have HR2 : Hid (r = x.text) := Lib.hid (by rw [← HR.out, if_pos hok])
 clear HR
 rcases Atm.okB_kind hok with ⟨k1, he⟩ | ⟨k1, k2, hs⟩
 ·have tk : (x.kind == 1) = true := by simp [k1]
  have HT := Lib.hid (show r = (x.a.text ++ ⟨#[61]⟩) ++ x.b.text by rw [HR2.out]; unfold Atm.text; rw [if_pos k1])
  simp only [Atm.eqB, zcr] at he
  obtain ⟨hwa, hwb, _⟩ := he
  have hza := Tm.wf_text hwa
  have hzb := Tm.wf_text hwb
  have h61 : (⟨#[61]⟩ : ByteArray).size = 1 := rfl
  have HA : Hid (∀ W, Below w.heap.size w W → Calls Tryd.prog 92 #[.agg #[.string x.a.name, .slice a2 x.a.kids.length c2]] W fun e w' => e = .returned (.string x.a.text) ∧ Below W.heap.size W w') := Lib.hid (fun W hW => zF _ x.a 4 _ _ (Nat.le_refl _) hsm.1 (Tm.wf_shape hwa) (TmR.mk m1 ⟨f2, m2.below hW⟩))
  have HB : Hid (∀ W, Below w.heap.size w W → Calls Tryd.prog 92 #[.agg #[.string x.b.name, .slice a4 x.b.kids.length c4]] W fun e w' => e = .returned (.string x.b.text) ∧ Below W.heap.size W w') := Lib.hid (fun W hW => zF _ x.b 4 _ _ (Nat.le_refl _) hsm.2.1 (Tm.wf_shape hwb) (TmR.mk m3 ⟨f4, m4.below hW⟩))
  generalize x.a.text = ta at *
  generalize x.b.text = tb at *
  obtain ⟨y1, hy1⟩ : ∃ y, ta ++ ((⟨#[61]⟩ : ByteArray)) = y := ⟨_, rfl⟩
  have hs1 : y1.size ≤ 48 + 1 := by rw [← hy1, ByteArray.size_append]; omega
  have ha1 := zh Tryd.prog ta ((⟨#[61]⟩ : ByteArray)) (by omega)
  rw [hy1] at ha1
  have hno1 : ¬ (ta.size + ((⟨#[61]⟩ : ByteArray)).size > 9223372036854775807) := by omega
  obtain ⟨y2, hy2⟩ : ∃ y, y1 ++ tb = y := ⟨_, rfl⟩
  have hs2 : y2.size ≤ 49 + 48 := by rw [← hy2, ByteArray.size_append]; omega
  have ha2 := zh Tryd.prog y1 tb (by omega)
  rw [hy2] at ha2
  have hno2 : ¬ (y1.size + tb.size > 9223372036854775807) := by omega
  have HT2 : Hid (r = y2) := Lib.hid (by rw [HT.out, hy1, hy2])
  clear k1 hy1 hy2 HT HR2 hok
  have c0 := hX.2.1 0 _ rfl
  go_upto_region 4 with fail
  have q1 := cell_regrown (hX.2.1 1 _ rfl); have q2 := cell_regrown (hX.2.1 2 _ rfl); have q3 := cell_regrown (hX.2.1 3 _ rfl); have q4 := cell_regrown (hX.2.1 4 _ rfl)
  have hz0 := hb0.size
  refine wp_region_quiet_below (by kernel_rfl) (by kernel_rfl) ?_
  repeat (first | go_big_quiet_skip | quiet_step (first | (go_at_call 92; with_reducible refine Calls.regrown_of (HA.out _ (hb0.trans ((below_regrown _ _ _).mono hz0)))) | (go_at_call 92; with_reducible refine Calls.regrown_of (HB.out _ (hb0.trans ((below_regrown _ _ _).mono hz0))))))
  refine wpQuiet_nil ?_
  intro w9 hw9
  obtain ⟨⟨dq, osq⟩, hw9⟩ := hw9
  have hb9 : Below w0.heap.size w0 w9 := hw9 ▸ below_regrown w0 dq osq
  clear hw9 q1 q2 q3 q4
  go_wp2_with fail
  go_ret
  exact ⟨by rw [HT2.out]; rfl, hb0.trans (hb9.mono hz0)⟩
 ·have tk : (x.kind == 1) = false := by simp [k1]
  have HT := Lib.hid (show r = ((x.sumT x.nums.length ++ sgnT x.strict) ++ ⟨#[32]⟩) ++ dec9 x.bound by rw [HR2.out]; unfold Atm.text; rw [if_neg k1])
  obtain ⟨hti, hbi⟩ := Atm.okB_small hok
  have HTI := Lib.hid hti
  have HI1 := Lib.hid (Atm.okB_i64 hok).1
  have HI2 := Lib.hid (Atm.okB_i64 hok).2
  have HWF := Lib.hid (Atm.sum_wf hs)
  simp only [Atm.sumB, Atm.hdB, zcr, decide_eq_true_eq] at hs
  have hn4 : x.nums.length ≤ 4 := hs.1.2.2.2.1.2
  have HNT : Hid (x.nums.length = x.times.length) := Lib.hid hs.1.2.2.1
  have z42 : (⟨#[42]⟩ : ByteArray).size = 1 := rfl
  have z32 : (⟨#[32]⟩ : ByteArray).size = 1 := rfl
  have z6032 : (⟨#[60, 32]⟩ : ByteArray).size = 2 := rfl
  have z606132 : (⟨#[60, 61, 32]⟩ : ByteArray).size = 3 := rfl
  have hlen5 := zaY m5
  clear hs hok k1 k2 m1 m2 m3 m4 hti HR2
  have c0 := hX.2.1 0 _ rfl
  go_upto_region 5 with fail
  go_wp2_with fail
  clear c0
  go_loopw [3, 4] (fun ov i wq => ∃ k : Nat, k ≤ x.nums.length ∧ i = .int .i64 k ∧ ov = .string (x.sumT k) ∧ (x.sumT k).size ≤ 72 * k ∧ Below w0.heap.size w0 wq) (fun _ i _ => x.nums.length - (intOf i).toNat)
  case atStart => exact ⟨0, Nat.zero_le _, rfl, rfl, Nat.le_refl 0, Below.refl _ _⟩
  case round =>
   obtain ⟨k, hkl, rfl, rfl, hsk, hb⟩ := hrel
   have hXk := hX.below hb
   have hz0 := hb0.size
   have hB := hb0.trans (hb.mono hz0)
   have x5 := hXk.2.1 5 _ rfl
   by_cases hlt : k < x.nums.length
   ·skip
    have hlt' : k < x.times.length := by have := HNT.out; omega
    obtain ⟨b, off, rfl, hbs, _⟩ := zk m5 (by omega)
    obtain ⟨b', off', rfl, hbs', _⟩ := zk m6 (by omega)
    obtain ⟨e1, g1, h1, d0, d1, t0, t1, _⟩ := Tm.at (m5.below hB) hlt
    obtain ⟨n0, n1⟩ := zC (m6.below hB) hlt'
    have hwf := HWF.out _ (zcm hlt)
    have hzt := Tm.wf_text hwf
    have hzn := zU n1
    have HS := Lib.hid (Atm.sumT_succ hlt hlt')
    have htb := HTI.out k hlt'
    have HA : Hid (∀ W, Below wr.heap.size wr W → Calls Tryd.prog 92 #[.agg #[.string x.nums[k].name, .slice e1 x.nums[k].kids.length g1]] W fun e w' => e = .returned (.string x.nums[k].text) ∧ Below W.heap.size W w') := Lib.hid (fun W hW => zF _ x.nums[k] 4 _ _ (Nat.le_refl _) (Nat.le_trans (Tm.wf_size hwf) (by omega)) (Tm.wf_shape hwf) ((TmR.mk t0 ⟨h1, t1⟩).below hW))
    have HN : Hid (∀ W, Calls Tryd.prog 124 #[.int .i64 x.times[k]] W fun e w' => e = .returned (.string (dec9 x.times[k])) ∧ Below W.heap.size W w') := Lib.hid (fun W => za4 _ (by omega) W)
    generalize x.nums[k].text = tt at *
    generalize dec9 x.times[k] = dd at *
    generalize x.sumT k = so at *
    have hso : so.size ≤ 288 := by omega
    obtain ⟨z1, hy3⟩ : ∃ y, so ++ dd = y := ⟨_, rfl⟩
    have hs3 : z1.size ≤ so.size + 21 := by rw [← hy3, ByteArray.size_append]; omega
    have ha3 := zh Tryd.prog so dd (by omega)
    rw [hy3] at ha3
    have hno3 : ¬ (so.size + dd.size > 9223372036854775807) := by omega
    obtain ⟨z2, hy4⟩ : ∃ y, z1 ++ ((⟨#[42]⟩ : ByteArray)) = y := ⟨_, rfl⟩
    have hs4 : z2.size ≤ so.size + 21 + 1 := by rw [← hy4, ByteArray.size_append]; omega
    have ha4 := zh Tryd.prog z1 ((⟨#[42]⟩ : ByteArray)) (by omega)
    rw [hy4] at ha4
    have hno4 : ¬ (z1.size + ((⟨#[42]⟩ : ByteArray)).size > 9223372036854775807) := by omega
    obtain ⟨z3, hy5⟩ : ∃ y, z2 ++ tt = y := ⟨_, rfl⟩
    have hs5 : z3.size ≤ so.size + 22 + 48 := by rw [← hy5, ByteArray.size_append]; omega
    have ha5 := zh Tryd.prog z2 tt (by omega)
    rw [hy5] at ha5
    have hno5 : ¬ (z2.size + tt.size > 9223372036854775807) := by omega
    obtain ⟨z4, hy6⟩ : ∃ y, z3 ++ ((⟨#[32]⟩ : ByteArray)) = y := ⟨_, rfl⟩
    have hs6 : z4.size ≤ so.size + 70 + 1 := by rw [← hy6, ByteArray.size_append]; omega
    have ha6 := zh Tryd.prog z3 ((⟨#[32]⟩ : ByteArray)) (by omega)
    rw [hy6] at ha6
    have hno6 : ¬ (z3.size + ((⟨#[32]⟩ : ByteArray)).size > 9223372036854775807) := by omega
    have HS2 : Hid (x.sumT (k + 1) = z4) := Lib.hid (by rw [HS.out, ← hy6, ← hy5, ← hy4, ← hy3]; simp only [ByteArray.append_assoc])
    clear hy3 hy4 hy5 hy6 HS
    go_upto_region 9 with fail
    have q1 := cell_regrown (hXk.2.1 5 _ rfl); have q2 := cell_regrown (hXk.2.1 6 _ rfl); have q3 := cell_regrown n0; have q4 := cell_regrown d0; have q5 := cell_regrown d1
    refine wp_region_quiet_below (by kernel_rfl) (by kernel_rfl) ?_
    repeat (first | go_big_quiet_skip | quiet_step (first | (go_at_call 92; with_reducible refine Calls.regrown_of (HA.out _ (below_regrown _ _ _))) | (go_at_call 124; with_reducible refine Calls.regrown_of (HN.out _))))
    refine wpQuiet_nil ?_
    intro w9 hw9
    obtain ⟨⟨dq, osq⟩, hw9⟩ := hw9
    have hb9 : Below wr.heap.size wr w9 := hw9 ▸ below_regrown wr dq osq
    clear hw9 q1 q2 q3 q4 q5
    go_wp2_with fail
    go_roundw
    case rel => exact ⟨k + 1, by omega, by go_num, by rw [HS2.out], by rw [HS2.out]; omega, hb.trans (hb9.mono hb.size)⟩
    case measure => simp [intOf]; omega
   ·skip
    have hke : k = x.nums.length := by omega
    subst hke
    have HN : Hid (∀ W, Calls Tryd.prog 124 #[.int .i64 x.bound] W fun e w' => e = .returned (.string (dec9 x.bound)) ∧ Below W.heap.size W w') := Lib.hid (fun W => za4 _ (by omega) W)
    have hzn := zU HI2.out
    generalize dec9 x.bound = dd at *
    generalize x.sumT x.nums.length = so at *
    have hso : so.size ≤ 288 := by omega
    have x7 := hXk.2.1 7 _ rfl
    have x8 := hXk.2.1 8 _ rfl
    cases hst : x.strict
    ·rw [hst] at x8 HT
     obtain ⟨z1, hy3⟩ : ∃ y, so ++ ((⟨#[60, 61, 32]⟩ : ByteArray)) = y := ⟨_, rfl⟩
     have hs3 : z1.size ≤ 288 + 3 := by rw [← hy3, ByteArray.size_append]; omega
     have ha3 := zh Tryd.prog so ((⟨#[60, 61, 32]⟩ : ByteArray)) (by omega)
     rw [hy3] at ha3
     have hno3 : ¬ (so.size + ((⟨#[60, 61, 32]⟩ : ByteArray)).size > 9223372036854775807) := by omega
     obtain ⟨z2, hy4⟩ : ∃ y, z1 ++ dd = y := ⟨_, rfl⟩
     have hs4 : z2.size ≤ 291 + 21 := by rw [← hy4, ByteArray.size_append]; omega
     have ha4 := zh Tryd.prog z1 dd (by omega)
     rw [hy4] at ha4
     have hno4 : ¬ (z1.size + dd.size > 9223372036854775807) := by omega
     have HT2 : Hid (r = z2) := Lib.hid (by rw [HT.out, ← hy4, ← hy3]; simp only [sgnT, Bool.false_eq_true, if_false, ByteArray.append_assoc]; rfl)
     clear hy3 hy4 HT hst
     go_wp2_with fail
     refine (HN.out _).mono ?_
     rintro e w9 ⟨rfl, hb9⟩
     go_wp2_with fail
     go_ret
     exact ⟨by rw [HT2.out]; rfl, hB.trans (hb9.mono hB.size)⟩
    ·rw [hst] at x8 HT
     obtain ⟨z1, hy3⟩ : ∃ y, so ++ ((⟨#[60, 32]⟩ : ByteArray)) = y := ⟨_, rfl⟩
     have hs3 : z1.size ≤ 288 + 2 := by rw [← hy3, ByteArray.size_append]; omega
     have ha3 := zh Tryd.prog so ((⟨#[60, 32]⟩ : ByteArray)) (by omega)
     rw [hy3] at ha3
     have hno3 : ¬ (so.size + ((⟨#[60, 32]⟩ : ByteArray)).size > 9223372036854775807) := by omega
     obtain ⟨z2, hy4⟩ : ∃ y, z1 ++ dd = y := ⟨_, rfl⟩
     have hs4 : z2.size ≤ 290 + 21 := by rw [← hy4, ByteArray.size_append]; omega
     have ha4 := zh Tryd.prog z1 dd (by omega)
     rw [hy4] at ha4
     have hno4 : ¬ (z1.size + dd.size > 9223372036854775807) := by omega
     have HT2 : Hid (r = z2) := Lib.hid (by rw [HT.out, ← hy4, ← hy3]; simp only [sgnT, if_true, ByteArray.append_assoc]; rfl)
     clear hy3 hy4 HT hst
     go_wp2_with fail
     refine (HN.out _).mono ?_
     rintro e w9 ⟨rfl, hb9⟩
     go_wp2_with fail
     go_ret
     exact ⟨by rw [HT2.out]; rfl, hB.trans (hb9.mono hB.size)⟩
theorem zbo (x : Lt) (hok : x.atom.okB = true) (vs : List Value) (f : List Nat) (w : World) (hbig : x.atom.small) (hv : RdVs w x.cd vs f) :
  Calls Tryd.prog 84 #[.agg vs.toArray] w fun e w' => e = .returned (.string x.text) ∧ Below w.heap.size w w' := by
 obtain ⟨a2, c2, f2, a4, c4, f4, a5, c5, f5, a6, c6, f6, rfl, _, m0, m1, m2, m3, m4, m5, m6, m7⟩ := Lt.open hv
 have hat := Atm.close m0 m1 m2 m3 m4 m5 m6 m7
 have hX := Box.new w [.int .i64 x.atom.kind, .string x.atom.a.name, .slice a2 x.atom.a.kids.length c2, .string x.atom.b.name, .slice a4 x.atom.b.kids.length c4, .slice a5 x.atom.nums.length c5, .slice a6 x.atom.times.length c6, .int .i64 x.atom.bound, .bool x.atom.strict, .bool x.no] 30
 have hb0 := za w (.cells #[.int .i64 x.atom.kind, .string x.atom.a.name, .slice a2 x.atom.a.kids.length c2, .string x.atom.b.name, .slice a4 x.atom.b.kids.length c4, .slice a5 x.atom.nums.length c5, .slice a6 x.atom.times.length c6, .int .i64 x.atom.bound, .bool x.atom.strict, .bool x.no] 30)
 have h9 := za9 x.atom _ _ _ hbig (by exact hat.below hb0)
 rw [if_pos hok] at h9
 have hz := Atm.text_ok hok
 have hne := Atm.text_ne x.atom
 have HT := Lib.hid (show x.text = if x.no = true then ⟨#[110, 111, 116, 32]⟩ ++ x.atom.text else x.atom.text from rfl)
 have z4 : (⟨#[110, 111, 116, 32]⟩ : ByteArray).size = 4 := rfl
 generalize x.atom.text = tx at *
 obtain ⟨y1, hy1⟩ : ∃ y, ((⟨#[110, 111, 116, 32]⟩ : ByteArray)) ++ tx = y := ⟨_, rfl⟩
 have hs1 : y1.size ≤ 4 + 400 := by rw [← hy1, ByteArray.size_append]; omega
 have ha1 := zh Tryd.prog ((⟨#[110, 111, 116, 32]⟩ : ByteArray)) tx (by omega)
 rw [hy1] at ha1
 have hno1 : ¬ (((⟨#[110, 111, 116, 32]⟩ : ByteArray)).size + tx.size > 9223372036854775807) := by omega
 rw [hy1] at HT
 have hemp : tx.toList.isEmpty = false := by
  cases hl : tx.toList with
  | nil =>
   rw [ByteArray.toList_eq] at hl
   exact absurd (Tm.bytes_eq (by rw [hl])) hne
  | cons a l => rfl
 clear hy1 hne
 go_enter Tryd.func84, Tryd.ntmps84
 go_upto_region 1 with fail
 generalize w.alloc (.cells #[.int .i64 x.atom.kind, .string x.atom.a.name, .slice a2 x.atom.a.kids.length c2, .string x.atom.b.name, .slice a4 x.atom.b.kids.length c4, .slice a5 x.atom.nums.length c5, .slice a6 x.atom.times.length c6, .int .i64 x.atom.bound, .bool x.atom.strict, .bool x.no] 30) = w0 at *
 have x0 := hX.2.1 0 _ rfl; have x1 := hX.2.1 1 _ rfl; have x2 := hX.2.1 2 _ rfl; have x3 := hX.2.1 3 _ rfl; have x4 := hX.2.1 4 _ rfl; have x5 := hX.2.1 5 _ rfl; have x6 := hX.2.1 6 _ rfl; have x7 := hX.2.1 7 _ rfl; have x8 := hX.2.1 8 _ rfl; have x9 := hX.2.1 9 _ rfl
 go_wp2_with fail
 refine h9.mono ?_
 rintro e w1 ⟨rfl, hb1⟩
 replace hX := hX.below hb1
 clear x0 x1 x2 x3 x4 x5 x6 x7 x8 x9
 have x9 := hX.2.1 9 _ rfl
 cases hno : x.no
 ·have HT2 : Hid (x.text = tx) := Lib.hid (by rw [HT.out, hno]; rfl)
  rw [hno] at x9
  go_wp2_with fail
  go_ret
  exact ⟨by rw [HT2.out]; rfl, hb0.trans (hb1.mono hb0.size)⟩
 ·have HT2 : Hid (x.text = y1) := Lib.hid (by rw [HT.out, hno]; rfl)
  rw [hno] at x9
  go_wp2_with fail
  go_ret
  exact ⟨by rw [HT2.out]; rfl, hb0.trans (hb1.mono hb0.size)⟩
end Go.Proofs.YtoehhbkhdddeeaaDoor
end
