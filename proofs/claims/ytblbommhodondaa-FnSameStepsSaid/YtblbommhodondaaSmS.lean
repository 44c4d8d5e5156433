/- The law FnSameSteps. -/
import Derived.Deep.RegionHeld3
import Derived.BigQuiet
import Derived.Test.YtblbommhodondaaSmK
import Derived.Test.YtblbommhodondaaSmE
import Derived.Test.YtblbommhodondaaCloX
namespace Go.Proofs.Ytblbommhodondaa
open Go Go.RowKit
set_option linter.unusedVariables false
set_option linter.unusedSimpArgs false

/-- The steps answer to the classes. -/
theorem steps_ok (s : Sg) (es : List Eqn) (ms : List Tm) : ∃ c : List Nat, sameCl s es ms = nats c ∧ c.length = (sameSt s es ms).1.length ∧ (sameSt s es ms).1.length ≤ 24 ∧ notRoots c (sameSt s es ms).1.length = (sameSt s es ms).2.length ∧
    ∀ x ∈ (sameSt s es ms).2, ∃ a b : Nat, x.a = a ∧ x.b = b ∧ a ≠ b ∧ a < c.length ∧ b < c.length ∧ Clo.cl c a = Clo.cl c b := by
  cases hm : moreB s es ms with
  | false => rw [sameCl_no hm, sameSt_no hm]; exact ⟨[], rfl, rfl, by simp, rfl, by simp⟩
  | true =>
    rw [sameCl_yes hm, sameSt_yes hm]
    obtain ⟨h1, h2⟩ := cloS_ok es ms
    have h3 := (cloC_good es ms).1
    refine ⟨cloC es ms, rfl, h3, (moreB_yes hm).2, h1, fun x hx => ?_⟩
    obtain ⟨a, b, q1, q2, q3, q4, q5, q6⟩ := h2 x hx
    exact ⟨a, b, q1, q2, q3, by omega, by omega, q6⟩
set_option maxRecDepth 100000 in
set_option maxHeartbeats 8000000 in
theorem sameStepsL_walk (v : Value) (w : World) (hv : Byts w v) :
    Calls Try.prog 4 #[v] w fun e w' => e = .returned (.bool true) ∧ Below w.heap.size w w' := by
  have hv0 := hv
  obtain ⟨a9, n, cap, rfl, hn1, hn2, _⟩ := hv
  by_cases hlen : n ≤ 1048576
  rotate_left
  · have hlb : decide ((1048576 : Int) < (n : Int)) = true := decide_eq_true (by omega)
    go_enter Try.func4, Try.ntmps4
    go_wp2_with fail
    go_ret
    exact ⟨rfl, Below.refl _ _⟩
  have hlb : decide ((1048576 : Int) < (n : Int)) = false := decide_eq_false (by omega)
  go_enter Try.func4, Try.ntmps4
  go_wp2_with fail
  refine (drawSameSteps_any _ _ hv0).mono ?_
  rintro e u1 ⟨⟨s, es, a, b, sa, sc, ev, mv, sf, ef, mf, hfew, hel, hes, hsa, hsb, rfl, hrs, hre, hrm, _⟩, hb1⟩
  have hbig := big_of3 hel hes (a := a) (b := b) (by omega) (by omega)
  obtain ⟨c, hcl, hc1, hc2, hc3, hc4⟩ := steps_ok s es [a, b]
  have bb := below_alloc u1 (.cells #[.slice sa s.syms.length sc] 25)
  have x0 : (u1.alloc (.cells #[.slice sa s.syms.length sc] 25)).cell? ⟨u1.heap.size, 0, none⟩ = some (.slice sa s.syms.length sc) := cells_new' u1 [.slice sa s.syms.length sc] _ 0 _ rfl
  replace hrs := hrs.below bb
  replace hre := hre.below bb
  replace hrm := hrm.below bb
  have hB1 := hb1.trans (bb.mono hb1.size)
  clear hb1 bb hes hv0
  go_wp2_with fail
  generalize u1.alloc (.cells #[.slice sa s.syms.length sc] 25) = W1 at *
  refine (sameSteps_any s es [a, b] _ _ _ _ _ _ _ (by omega) (by omega) (by exact hrs) (by exact hre) (by exact hrm)).mono ?_
  rintro e W2 ⟨pv, sv, fp, fs, rfl, hp, ht, _, hb2⟩
  obtain ⟨pa, pc, rfl, hpc1, hpc2⟩ := rd_sl_inv hp
  obtain ⟨ta, tc, rfl, htc1, htc2⟩ := rd_sl_inv ht
  replace x0 := cell_keep x0 hb2
  replace hrs := hrs.below hb2
  replace hre := hre.below hb2
  replace hrm := hrm.below hb2
  have hB2 := hB1.trans (hb2.mono hB1.size)
  clear hb2 hB1
  go_wp2_with fail
  refine (sameStepsS_any s es [a, b] _ _ _ _ _ _ _ (by omega) (by exact hrs) (by exact hre) (by exact hrm)).mono ?_
  rintro e W3 ⟨pv, sv, fp3, fs3, rfl, hp3, ht3, _, hb3⟩
  obtain ⟨pa3, pc3, rfl, hpc3, hpc4⟩ := rd_sl_inv hp3
  obtain ⟨ta3, tc3, rfl, htc3, htc4⟩ := rd_sl_inv ht3
  replace x0 := cell_keep x0 hb3
  replace hrs := hrs.below hb3
  replace hre := hre.below hb3
  replace hrm := hrm.below hb3
  replace hp := hp.below hb3
  replace ht := ht.below hb3
  have hB3 := hB2.trans (hb3.mono hB2.size)
  clear hb3 hB2
  have hd1 : (((sameSt s es [a, b]).1.length : Int) == ((sameSt s es [a, b]).1.length : Int)) = true := by simp
  go_wp2_with fail
  refine (sameClass_any s es [a, b] _ _ _ _ _ _ _ (by omega) (by omega) (by exact hrs) (by exact hre) (by exact hrm)).mono ?_
  rintro e W4 ⟨cv, cf, rfl, hc, _, hb4⟩
  rw [hcl] at hc
  obtain ⟨ca, cc, rfl, hcc1, hcc2⟩ := rd_sl_inv hc
  rw [nats_len] at hcc1
  have hp4 : TmsR W4 _ _ := ⟨_, hp.below hb4⟩
  have hp34 : TmsR W4 _ _ := ⟨_, hp3.below hb4⟩
  have ht4 := ht.below hb4
  have ht34 := ht3.below hb4
  have hB4 := hB3.trans (hb4.mono hB3.size)
  clear hb4 hB3 x0 hrs hre hrm hp hp3 ht ht3 hcl
  generalize (sameSt s es [a, b]).1 = ps at *
  generalize (sameSt s es [a, b]).2 = st at *
  have HST := Lib.hid hc4
  have HN := Lib.hid hc3
  have hstl : st.length ≤ ps.length := by rw [← hc3]; exact notRoots_le _ _
  clear hc4 hc3
  have hnz := notRoots_zero c
  rw [nats_len]
  go_wp2_with fail
  go_loopw [11, 12] (fun nv i wr => ∃ k : Nat, k ≤ ps.length ∧ i = .int .i64 k ∧ nv = .int .i64 (notRoots c k : Nat) ∧ Below W4.heap.size W4 wr) (fun _ i _ => ps.length - (intOf i).toNat)
  case atStart => exact ⟨0, Nat.zero_le _, rfl, by rw [hnz]; rfl, Below.refl _ _⟩
  case round =>
    obtain ⟨k, hkl, rfl, rfl, hb⟩ := hrel
    have hz := hb.size
    have hnk := notRoots_le c k
    by_cases hlt : k < ps.length
    · obtain ⟨b1, off1, rfl, hbs1⟩ := hp4.addr (by omega)
      obtain ⟨b2, off2, rfl, hbs2⟩ := hp34.addr (by omega)
      obtain ⟨ka, kc, c0, c1, hss, hkk⟩ := (hp4.below hb).at hlt
      obtain ⟨ja, jc, d0, d1, hss2, hkk2⟩ := (hp34.below hb).at hlt
      obtain ⟨b3, off3, rfl, hbs3, _⟩ := rd_addr hc (by rw [nats_len]; omega)
      obtain ⟨e0, _⟩ := intCd_at (hc.below hb) (k := k) (by rw [nats_len]; omega)
      rw [nats_at] at e0
      have hself := Tm.beq_self ps[k]
      have hkc : (k : Int) < (c.length : Int) := by omega
      go_wp2_with fail
      have q0 := cell_regrown c0
      have q1 := cell_regrown c1
      have qx := cell_regrown d0
      have qy := cell_regrown d1
      refine wp_region_quiet_below (by kernel_rfl) (by kernel_rfl) ?_
      repeat (quiet_step (refine Calls.regrown_of (termSame_any _ ps[k] ps[k] _ _ _ (Nat.le_refl _) ((TmR.mk hss hkk).below (below_regrown _ _ _)) ((TmR.mk hss2 hkk2).below (below_regrown _ _ _)))))
      refine wpQuiet_nil ?_
      intro w7 hw7
      obtain ⟨⟨dq, osq⟩, hw7⟩ := hw7
      have hb7 : Below wr.heap.size wr w7 := hw7 ▸ below_regrown wr dq osq
      clear hw7 q0 q1 qx qy d0 d1 hss2 hkk2
      have hB7 := hb.trans (hb7.mono hz)
      replace e0 := cell_keep e0 hb7
      by_cases hck : Clo.cl c k = k
      · have hr := Lib.hid (notRoots_no hck)
        have hq : (((Clo.cl c k : Nat) : Int) == (k : Int)) = true := by rw [hck]; simp
        go_wp2_with fail
        go_roundw
        case rel => exact ⟨k + 1, by omega, by go_num, by rw [hr.out], hB7⟩
        case measure => simp [intOf]; omega
      · have hr := Lib.hid (notRoots_yes hck)
        have hq : (((Clo.cl c k : Nat) : Int) == (k : Int)) = false := beq_eq_false_iff_ne.2 (by omega)
        go_wp2_with fail
        go_roundw
        case rel => exact ⟨k + 1, by omega, by go_num, by rw [hr.out]; go_num, hB7⟩
        case measure => simp [intOf]; omega
    · obtain rfl : k = ps.length := by omega
      rw [HN.out]
      go_wp2_with fail
      go_loopw [13] (fun i wq => ∃ j : Nat, j ≤ st.length ∧ i = .int .i64 j ∧ Below W4.heap.size W4 wq) (fun i _ => st.length - (intOf i).toNat)
      case atStart => exact ⟨0, Nat.zero_le _, rfl, hb⟩
      case round =>
        clear hb hz
        obtain ⟨j, hjl, rfl, hb⟩ := hrel
        have hz := hb.size
        by_cases hlj : j < st.length
        · obtain ⟨b1, off1, rfl, hbs1, _⟩ := rd_addr ht4 (by omega)
          obtain ⟨b2, off2, rfl, hbs2, _⟩ := rd_addr ht34 (by omega)
          obtain ⟨x, y, hxa, hyb, hxy, hxl, hyl, heq⟩ := HST.out _ (List.getElem_mem hlj)
          obtain ⟨s0, s1, s2, _⟩ := Stp.at (ht4.below hb) hlj
          obtain ⟨p0, p1, p2, _⟩ := Stp.at (ht34.below hb) hlj
          obtain ⟨b3, off3, rfl, hbs3, _⟩ := rd_addr hc (by rw [nats_len]; omega)
          obtain ⟨e0, _⟩ := intCd_at (hc.below hb) (k := x) (by rw [nats_len]; omega)
          obtain ⟨e1, _⟩ := intCd_at (hc.below hb) (k := y) (by rw [nats_len]; omega)
          rw [nats_at] at e0 e1
          rw [← heq] at e1
          rw [hxa] at s0 p0
          rw [hyb] at s1 p1
          have hq1 : ((x : Int) == (y : Int)) = false := beq_eq_false_iff_ne.2 (by omega)
          have hq2 : (((Clo.cl c x : Nat) : Int) == ((Clo.cl c x : Nat) : Int)) = true := by simp
          have hxl' : (x : Int) < (c.length : Int) := by omega
          have hyl' : (y : Int) < (c.length : Int) := by omega
          clear hxa hyb heq
          go_wp2_with fail
          have q0 := cell_regrown s0
          have q1 := cell_regrown s1
          have q2 := cell_regrown s2
          have q3 := cell_regrown p0
          have q4 := cell_regrown p1
          have q5 := cell_regrown p2
          have q6 := cell_regrown e0
          have q7 := cell_regrown e1
          refine wp_region_quiet_below (by kernel_rfl) (by kernel_rfl) ?_
          repeat (go_big_quiet_step (fail))
          refine wpQuiet_nil ?_
          intro w7 hw7
          obtain ⟨⟨dq, osq⟩, hw7⟩ := hw7
          have hb7 : Below wr.heap.size wr w7 := hw7 ▸ below_regrown wr dq osq
          clear hw7
          go_wp2_with fail
          go_roundw
          case rel => exact ⟨j + 1, by omega, by go_num, hb.trans (hb7.mono hz)⟩
          case measure => simp [intOf]; omega
        · go_wp2_with fail
          go_ret
          exact ⟨rfl, hB4.trans (hb.mono hB4.size)⟩
end Go.Proofs.Ytblbommhodondaa
