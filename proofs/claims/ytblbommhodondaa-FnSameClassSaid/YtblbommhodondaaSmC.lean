/- The law FnSameClass. -/
import Derived.Deep.RegionHeld3
import Derived.BigQuiet
import Derived.Test.YtblbommhodondaaSmK
import Derived.Test.YtblbommhodondaaSmE
import Derived.Test.YtblbommhodondaaCloX
namespace Go.Proofs.Ytblbommhodondaa
open Go Go.RowKit
set_option linter.unusedVariables false
set_option linter.unusedSimpArgs false

theorem class_ok (s : Sg) (es : List Eqn) (a b : Tm) (hes : ∀ q ∈ es, q.a.size ≤ 45 ∧ q.b.size ≤ 45) (ha : a.size ≤ 45) (hb : b.size ≤ 45) : ∃ c : List Nat, sameCl s es [a, b] = nats c ∧ c.length = (sameSt s es [a, b]).1.length ∧ (sameSt s es [a, b]).1.length ≤ 24 ∧
    (∀ t ∈ (sameSt s es [a, b]).1, t.kids.length ≤ 5000) ∧ (0 < c.length → Clo.Ok (sameSt s es [a, b]).1 es c) := by
  cases hm : moreB s es [a, b] with
  | false => rw [sameCl_no hm, sameSt_no hm]; exact ⟨[], rfl, rfl, by simp, by simp, by simp⟩
  | true =>
    rw [sameCl_yes hm, sameSt_yes hm]
    refine ⟨cloC es [a, b], rfl, (cloC_good es [a, b]).1, (moreB_yes hm).2, fun t ht => ?_, fun _ => cloC_ok es [a, b]⟩
    have h1 := moreP_small hes ha hb t ht
    have h2 := Tm.sizes_len t.kids
    have h3 := Tm.size_eq t
    omega
set_option maxRecDepth 100000 in
set_option maxHeartbeats 8000000 in
theorem sameClassL_walk (v : Value) (w : World) (hv : Byts w v) :
    Calls Try.prog 3 #[v] w fun e w' => e = .returned (.bool true) ∧ Below w.heap.size w w' := by
  have hv0 := hv
  obtain ⟨a9, n, cap, rfl, hn1, hn2, _⟩ := hv
  by_cases hlen : n ≤ 1048576
  rotate_left
  · have hlb : decide ((1048576 : Int) < (n : Int)) = true := decide_eq_true (by omega)
    go_enter Try.func3, Try.ntmps3
    go_wp2_with fail
    go_ret
    exact ⟨rfl, Below.refl _ _⟩
  have hlb : decide ((1048576 : Int) < (n : Int)) = false := decide_eq_false (by omega)
  go_enter Try.func3, Try.ntmps3
  go_wp2_with fail
  refine (drawSameClass_any _ _ hv0).mono ?_
  rintro e u1 ⟨⟨s, es, a, b, sa, sc, ev, mv, sf, ef, mf, hfew, hel, hes, hsa, hsb, rfl, hrs, hre, hrm, _⟩, hb1⟩
  have hbig := big_of3 hel hes (a := a) (b := b) (by omega) (by omega)
  obtain ⟨c, hcl, hc1, hc2, hck, hcok⟩ := class_ok s es a b hes hsa hsb
  have hca : c.length ≤ (sameSt s es [a, b]).1.length := by omega
  have hcb : (sameSt s es [a, b]).1.length ≤ c.length := by omega
  have hq0 := len_of_eq hc1
  have hq0n : ((c.length : Int) != ((sameSt s es [a, b]).1.length : Int)) = false := by rw [hc1]; simp
  have HC1 := Lib.hid hc1
  clear hc1
  have bb := below_alloc u1 (.cells #[.slice sa s.syms.length sc] 25)
  have x0 : (u1.alloc (.cells #[.slice sa s.syms.length sc] 25)).cell? ⟨u1.heap.size, 0, none⟩ = some (.slice sa s.syms.length sc) := cells_new' u1 [.slice sa s.syms.length sc] _ 0 _ rfl
  replace hrs := hrs.below bb
  replace hre := hre.below bb
  replace hrm := hrm.below bb
  have hB1 := hb1.trans (bb.mono hb1.size)
  obtain ⟨ea, ec, rfl, hec1, hec2⟩ := rd_sl_inv hre
  clear hb1 bb hes hv0
  go_wp2_with fail
  generalize u1.alloc (.cells #[.slice sa s.syms.length sc] 25) = W1 at *
  refine (sameClass_any s es [a, b] _ _ _ _ _ _ _ (by omega) (by omega) (by exact hrs) (by exact hre) (by exact hrm)).mono ?_
  rintro e W2 ⟨cv, cf, rfl, hc, _, hb2⟩
  rw [hcl] at hc
  obtain ⟨ca, cc, rfl, hcc1, hcc2⟩ := rd_sl_inv hc
  replace x0 := cell_keep x0 hb2
  replace hrs := hrs.below hb2
  replace hre := hre.below hb2
  replace hrm := hrm.below hb2
  have hB2 := hB1.trans (hb2.mono hB1.size)
  clear hb2 hB1
  go_wp2_with fail
  refine (sameSteps_any s es [a, b] _ _ _ _ _ _ _ (by omega) (by omega) (by exact hrs) (by exact hre) (by exact hrm)).mono ?_
  rintro e W3 ⟨pv, sv, fp, fs, rfl, hp, ht, _, hb3⟩
  obtain ⟨pa, pc, rfl, hpc1, hpc2⟩ := rd_sl_inv hp
  obtain ⟨ta, tc, rfl, htc1, htc2⟩ := rd_sl_inv ht
  replace x0 := cell_keep x0 hb3
  replace hrs := hrs.below hb3
  replace hre := hre.below hb3
  replace hrm := hrm.below hb3
  replace hc := hc.below hb3
  have hB3 := hB2.trans (hb3.mono hB2.size)
  clear hb3 hB2 ht
  go_wp2_with fail
  refine (sameClassS_any s es [a, b] _ _ _ _ _ _ _ (by omega) (by exact hrs) (by exact hre) (by exact hrm)).mono ?_
  rintro e W4 ⟨cv2, cf2, rfl, hc', _, hb4⟩
  rw [hcl] at hc'
  obtain ⟨ca2, cc2, rfl, hcc3, hcc4⟩ := rd_sl_inv hc'
  replace x0 := cell_keep x0 hb4
  replace hre := hre.below hb4
  replace hc := hc.below hb4
  replace hp := hp.below hb4
  have hB4 := hB3.trans (hb4.mono hB3.size)
  clear hb4 hB3 hrs hrm
  go_wp2_with fail
  refine (wpNums_same (nats c) _ _ _ _ _ (by exact hc) (by exact hc')).mono ?_
  rintro e W5 ⟨rfl, hb5⟩
  replace hre := hre.below hb5
  replace hc := hc.below hb5
  have hp4 : TmsR W5 _ _ := ⟨_, hp.below hb5⟩
  have hB5 := hB4.trans (hb5.mono hB4.size)
  clear hb5 hB4 x0 hc' hp hcl
  rw [nats_len] at hcc1 hc
  simp only [nats_len]
  generalize (sameSt s es [a, b]).1 = ps at *
  have HKS := Lib.hid hck
  have HOK := Lib.hid hcok
  clear hck hcok
  go_wp2_with fail
  go_loopw [9] (fun i wr => ∃ k : Nat, k ≤ c.length ∧ i = .int .i64 k ∧ Below W5.heap.size W5 wr) (fun i _ => c.length - (intOf i).toNat)
  case atStart => exact ⟨0, Nat.zero_le _, rfl, Below.refl _ _⟩
  case round =>
    obtain ⟨k, hkl, rfl, hb⟩ := hrel
    have hz := hb.size
    by_cases hlt : k < c.length
    · have hok := HOK.out (by omega)
      have hlow := hok.low k (by omega)
      obtain ⟨b1, off1, rfl, hbs1⟩ := hp4.addr (by omega)
      obtain ⟨ka, kc, c0, c1, hss, hkk⟩ := (hp4.below hb).at (show k < ps.length by omega)
      obtain ⟨b3, off3, rfl, hbs3, _⟩ := rd_addr hc (by rw [nats_len]; omega)
      obtain ⟨e0, _⟩ := intCd_at (hc.below hb) (k := k) (by rw [nats_len]; omega)
      obtain ⟨e1, _⟩ := intCd_at (hc.below hb) (k := Clo.cl c k) (by rw [nats_len]; omega)
      rw [nats_at] at e0 e1
      rw [hlow.2] at e1
      have HLW := Lib.hid hlow
      have hlw1 := hlow.1
      have hkc : (k : Int) < (c.length : Int) := by omega
      have hkc2 : ((Clo.cl c k : Nat) : Int) < (c.length : Int) := by omega
      have hq1 : decide ((k : Int) < ((Clo.cl c k : Nat) : Int)) = false := decide_eq_false (by omega)
      have hq1n : decide (k < Clo.cl c k) = false := decide_eq_false (by omega)
      have hq1p : ¬ (k < Clo.cl c k) := by omega
      have hq1i : ¬ ((k : Int) < ((Clo.cl c k : Nat) : Int)) := by omega
      have hq2 : decide (((Clo.cl c k : Nat) : Int) < 0) = false := decide_eq_false (by omega)
      have hq3 : (((Clo.cl c k : Nat) : Int) == ((Clo.cl c k : Nat) : Int)) = true := by simp
      have HO := Lib.hid hok
      clear hok
      go_wp2_with fail
      have q0 := cell_regrown e0
      have q1 := cell_regrown e1
      refine wp_region_quiet_below (by kernel_rfl) (by kernel_rfl) ?_
      repeat (go_big_quiet_step (fail))
      refine wpQuiet_nil ?_
      intro w6 hw6
      obtain ⟨⟨dq, osq⟩, hw6⟩ := hw6
      have hb6 : Below wr.heap.size wr w6 := hw6 ▸ below_regrown wr dq osq
      clear hw6 q0 q1 dq osq
      have hB6 := hb.trans (hb6.mono hz)
      replace e0 := cell_keep e0 hb6
      replace c0 := cell_keep c0 hb6
      clear hb6 hb hz e1 c1 hss hkk
      go_wp2_with fail
      go_loopw [10] (fun jv wq => ∃ j : Nat, j ≤ k ∧ jv = .int .i64 j ∧ Below W5.heap.size W5 wq ∧ wq.cell? ⟨b3, off3 + k, none⟩ = some (.int .i64 (Clo.cl c k : Nat)) ∧ wq.cell? ⟨b1, off1 + k * 2, none⟩ = some (.string ps[k].name)) (fun jv _ => k - (intOf jv).toNat)
      case atStart => exact ⟨0, Nat.zero_le _, rfl, hB6, e0, c0⟩
      case round =>
        clear hB6 e0 c0
        obtain ⟨j, hjl, rfl, hb, e0, c0⟩ := hrel
        have hz := hb.size
        by_cases hlj : j < k
        · obtain ⟨ja, jc, d0, d1, hst, hkj⟩ := (hp4.below hb).at (show j < ps.length by omega)
          obtain ⟨e1, _⟩ := intCd_at (hc.below hb) (k := j) (by rw [nats_len]; omega)
          rw [nats_at] at e1
          have hjc : (j : Int) < (c.length : Int) := by omega
          have hjp : (j : Int) < (ps.length : Int) := by omega
          have hkp : (k : Int) < (ps.length : Int) := by omega
          have hvw := hp4.below hb
          have hcw := hc.below hb
          by_cases hcc : Clo.cl c k = Clo.cl c j
          · have hq4 := len_of_eq hcc
            go_wp2_with fail
            have q0 := cell_regrown e0
            have q1 := cell_regrown e1
            have q2 := cell_regrown c0
            have q3 := cell_regrown d0
            refine wp_region_quiet_below (by kernel_rfl) (by kernel_rfl) ?_
            repeat (go_big_quiet_step (fail))
            refine wpQuiet_nil ?_
            intro w7 hw7
            obtain ⟨⟨dq, osq⟩, hw7⟩ := hw7
            have hb7 : Below wr.heap.size wr w7 := hw7 ▸ below_regrown wr dq osq
            clear hw7 q0 q1 q2 q3
            go_wp2_with fail
            go_roundw
            case rel => exact ⟨j + 1, by omega, by go_num, hb.trans (hb7.mono hz), cell_keep e0 hb7, cell_keep c0 hb7⟩
            case measure => simp [intOf]; omega
          have hq4 : (((Clo.cl c k : Nat) : Int) == ((Clo.cl c j : Nat) : Int)) = false := beq_eq_false_iff_ne.2 (by omega)
          have hq4n : (((Clo.cl c k : Nat) : Int) != ((Clo.cl c j : Nat) : Int)) = true := bne_iff_ne.2 (by omega)
          by_cases hnl : ps[k].name.toList = ps[j].name.toList
          rotate_left
          · have hq5 : (ps[k].name.toList == ps[j].name.toList) = false := beq_eq_false_iff_ne.2 hnl
            have hnm : ¬ ps[k].name = ps[j].name := fun e => hnl (by rw [e])
            have hq6 : decide (ps[k].name.toList = ps[j].name.toList) = false := decide_eq_false hnl
            have hq7 : decide (ps[k].name = ps[j].name) = false := decide_eq_false hnm
            go_wp2_with fail
            have q0 := cell_regrown e0
            have q1 := cell_regrown e1
            have q2 := cell_regrown c0
            have q3 := cell_regrown d0
            refine wp_region_quiet_below (by kernel_rfl) (by kernel_rfl) ?_
            repeat (go_big_quiet_step (fail))
            refine wpQuiet_nil ?_
            intro w7 hw7
            obtain ⟨⟨dq, osq⟩, hw7⟩ := hw7
            have hb7 : Below wr.heap.size wr w7 := hw7 ▸ below_regrown wr dq osq
            clear hw7 q0 q1 q2 q3
            go_wp2_with fail
            go_roundw
            case rel => exact ⟨j + 1, by omega, by go_num, hb.trans (hb7.mono hz), cell_keep e0 hb7, cell_keep c0 hb7⟩
            case measure => simp [intOf]; omega
          have hnm : ps[k].name = ps[j].name := bytes_inj.1 hnl
          have hq5 : (ps[k].name.toList == ps[j].name.toList) = true := beq_iff_eq.2 hnl
          have hq6 : decide (ps[k].name.toList = ps[j].name.toList) = true := decide_eq_true hnl
          have hq7 : decide (ps[k].name = ps[j].name) = true := decide_eq_true hnm
          have HKF : Hid (Clo.kidsB ps c ps[k].kids ps[j].kids = false) := Lib.hid (by
            cases hkb : Clo.kidsB ps c ps[k].kids ps[j].kids with
            | false => rfl
            | true => exact absurd (HO.out.alike j k hlj (by omega) hnm hkb) hcc)
          go_wp2_with fail
          have q0 := cell_regrown e0
          have q1 := cell_regrown e1
          have q2 := cell_regrown c0
          have q3 := cell_regrown d0
          refine wp_region_quiet_below (by kernel_rfl) (by kernel_rfl) ?_
          repeat (go_big_quiet_step (with_reducible refine Calls.regrown_of (wpKids_any ps c k j _ _ _ _ (Lib.hid HO.out.ord) HC1.out hc2 (by omega) (by omega) HKS.out (hvw.below (below_regrown _ _ _)) (hcw.below (below_regrown _ _ _)))))
          refine wpQuiet_nil ?_
          intro w7 hw7
          obtain ⟨⟨dq, osq⟩, hw7⟩ := hw7
          have hb7 : Below wr.heap.size wr w7 := hw7 ▸ below_regrown wr dq osq
          clear hw7 q0 q1 q2 q3
          rw [HKF.out]
          go_wp2_with fail
          go_roundw
          case rel => exact ⟨j + 1, by omega, by go_num, hb.trans (hb7.mono hz), cell_keep e0 hb7, cell_keep c0 hb7⟩
          case measure => simp [intOf]; omega
        · go_wp2_with fail
          go_roundw
          case rel => exact ⟨k + 1, by omega, by go_num, hb⟩
          case measure => simp [intOf]; omega
    · go_wp2_with fail
      go_loopw [11] (fun i wq => ∃ j : Nat, j ≤ es.length ∧ i = .int .i64 j ∧ Below W5.heap.size W5 wq) (fun i _ => es.length - (intOf i).toNat)
      case atStart => exact ⟨0, Nat.zero_le _, rfl, hb⟩
      case round =>
        clear hb hz
        obtain ⟨j, hjl, rfl, hb⟩ := hrel
        have hz := hb.size
        by_cases hlj : j < es.length
        · have hjd : decide ((j : Int) < (es.length : Int)) = true := decide_eq_true (by omega)
          by_cases hc0 : 0 < c.length
          rotate_left
          · have hd0 : decide ((0 : Int) < (c.length : Int)) = false := decide_eq_false (by omega)
            go_wp2_with fail
            go_ret
            exact ⟨rfl, hB5.trans (hb.mono hB5.size)⟩
          have hd0 : decide ((0 : Int) < (c.length : Int)) = true := decide_eq_true (by omega)
          have hok := HOK.out hc0
          obtain ⟨⟨hma, hmb⟩, hcg⟩ := hok.given _ (List.getElem_mem hlj)
          obtain ⟨b1, off1, rfl, hbs1⟩ := hp4.addr (by omega)
          obtain ⟨b2, off2, rfl, hbs2, _⟩ := rd_addr hre (by omega)
          obtain ⟨b3, off3, rfl, hbs3, _⟩ := rd_addr hc (by rw [nats_len]; omega)
          obtain ⟨xa, xc, xf, ya, yc, yf, g0, g1, g2, g3, n0, n1, n2, n3, _⟩ := Eqn.at (hre.below hb) hlj
          have HPA := Lib.hid (Tm.plc_pos hma)
          have HPB := Lib.hid (Tm.plc_pos hmb)
          have hpa := (Tm.pos_yes hma).1
          have hpb := (Tm.pos_yes hmb).1
          obtain ⟨z3, _⟩ := intCd_at (hc.below hb) (k := Tm.pos ps es[j].a) (by rw [nats_len]; omega)
          obtain ⟨z4, _⟩ := intCd_at (hc.below hb) (k := Tm.pos ps es[j].b) (by rw [nats_len]; omega)
          rw [nats_at] at z3 z4
          rw [← hcg] at z4
          have hz3 : (Tm.pos ps es[j].a : Int) < (c.length : Int) := by omega
          have hz4 : (Tm.pos ps es[j].b : Int) < (c.length : Int) := by omega
          have hq3 : (((Clo.cl c (Tm.pos ps es[j].a) : Nat) : Int) == ((Clo.cl c (Tm.pos ps es[j].a) : Nat) : Int)) = true := by simp
          have hvw := hp4.below hb
          have hjj : (j : Int) < (es.length : Int) := by omega
          have tA : TmR wr es[j].a (.agg #[.string es[j].a.name, .slice xa es[j].a.kids.length xc]) := TmR.mk n0 ⟨_, n1⟩
          have tB : TmR wr es[j].b (.agg #[.string es[j].b.name, .slice ya es[j].b.kids.length yc]) := TmR.mk n2 ⟨_, n3⟩
          clear hma hmb hcg hok
          go_wp2_with fail
          have q0 := cell_regrown g0
          have q1 := cell_regrown g1
          have q2 := cell_regrown g2
          have q3 := cell_regrown g3
          have q4 := cell_regrown z3
          have q5 := cell_regrown z4
          refine wp_region_quiet_below (by kernel_rfl) (by kernel_rfl) ?_
          repeat (go_big_quiet_step (first
            | (with_reducible refine Calls.regrown_of (wpPlace_eq HPA.out (wpPlace_any ps es[j].a _ _ _ (hvw.below (below_regrown _ _ _)) (tA.below (below_regrown _ _ _)))))
            | (with_reducible refine Calls.regrown_of (wpPlace_eq HPB.out (wpPlace_any ps es[j].b _ _ _ (hvw.below (below_regrown _ _ _)) (tB.below (below_regrown _ _ _)))))))
          refine wpQuiet_nil ?_
          intro w7 hw7
          obtain ⟨⟨dq, osq⟩, hw7⟩ := hw7
          have hb7 : Below wr.heap.size wr w7 := hw7 ▸ below_regrown wr dq osq
          clear hw7
          go_wp2_with fail
          go_roundw
          case rel => exact ⟨j + 1, by omega, by go_num, hb.trans (hb7.mono hz)⟩
          case measure => simp [intOf]; omega
        · have hjd : decide ((j : Int) < (es.length : Int)) = false := decide_eq_false (by omega)
          go_wp2_with fail
          go_ret
          exact ⟨rfl, hB5.trans (hb.mono hB5.size)⟩
end Go.Proofs.Ytblbommhodondaa
