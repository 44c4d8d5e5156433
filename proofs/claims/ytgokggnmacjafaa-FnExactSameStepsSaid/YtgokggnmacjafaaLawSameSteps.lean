/- The law FnExactSameSteps returns true. -/
import Derived.Deep.RegionHeld3
import Derived.Test.YtgokggnmacjafaaCloZ
import Derived.Test.YtgokggnmacjafaaCnt
import Derived.Test.YtgokggnmacjafaaExSz
import Derived.Test.YtgokggnmacjafaaExTo
import Derived.Test.YtgokggnmacjafaaExEq
namespace Go.Proofs.Ytgokggnmacjafaa
open Go Go.RowKit
set_option linter.unusedVariables false
set_option linter.unusedSimpArgs false
set_option maxRecDepth 100000 in
set_option maxHeartbeats 4000000 in
theorem exSameSteps_walk (x0 : Sg) (v0 : List Value) (f0 : List Nat) (x1 : List Eqn) (v1 : Value) (f1 : List Nat) (x2 : List Tm) (v2 : Value) (f2 : List Nat) (w : World) (hv0 : RdVs w x0.cd v0 f0) (hv1 : Rd w (.sl (x1.map Eqn.cd)) v1 f1) (hv2 : Rd w (.sl (x2.map Tm.cd)) v2 f2) :
    Calls Try.prog 10 #[.agg v0.toArray, v1, v2] w fun e w' => e = .returned (.bool true) ∧ Below w.heap.size w w' := by
  obtain ⟨a0A0, c0A0, f0A0, rfl, _, _⟩ := Sg.open hv0
  obtain ⟨p1, q1, rfl, hc1, hd1⟩ := rd_sl_inv hv1
  obtain ⟨p2, q2, rfl, hc2, hd2⟩ := rd_sl_inv hv2
  go_enter Try.func10, Try.ntmps10
  go_wp2_with fail
  refine (szSig_x x0 _ _ _ _ (by omega) (by omega) (by exact hv0.below (below_alloc _ _))).mono ?_
  rintro e w1 ⟨⟨r0, rfl, hr0⟩, hb⟩
  obtain ⟨X0, hz, hB⟩ := box1 (w := w) (wr := w1) (cs := #[.slice a0A0 x0.syms.length c0A0]) (T := 55) (below_size hb (by simp))
  have hz0 := hB.size
  have hlX0 : w.heap.size < w1.heap.size := by omega
  clear hb
  rcases hr0 with ⟨hs0, rfl⟩ | ⟨hs0, rfl⟩
  rotate_left
  · go_wp2_with fail
    go_ret
    exact ⟨rfl, hB⟩
  go_wp2_with fail
  refine (szEqS_x x1 _ _ _ _ (by omega) (by omega) (by exact hv1.below hB)).mono ?_
  rintro e w2 ⟨⟨r1, rfl, hr1⟩, hb⟩
  replace X0 := cells_later X0 hlX0 hb
  replace hB := hB.trans (hb.mono hz0)
  have hzn := hb.size
  replace hlX0 := Nat.lt_of_lt_of_le hlX0 hzn
  replace hz0 := Nat.le_trans hz0 hzn
  clear hb hzn
  rcases hr1 with ⟨hs1, rfl⟩ | ⟨hs1, rfl⟩
  rotate_left
  · go_wp2_with fail
    go_ret
    exact ⟨rfl, hB⟩
  go_wp2_with fail
  refine (szTermS_x x2 _ _ _ _ (by omega) (by omega) (by exact hv2.below hB)).mono ?_
  rintro e w3 ⟨⟨r2, rfl, hr2⟩, hb⟩
  replace X0 := cells_later X0 hlX0 hb
  replace hB := hB.trans (hb.mono hz0)
  have hzn := hb.size
  replace hlX0 := Nat.lt_of_lt_of_le hlX0 hzn
  replace hz0 := Nat.le_trans hz0 hzn
  clear hb hzn
  rcases hr2 with ⟨hs2, rfl⟩ | ⟨hs2, rfl⟩
  rotate_left
  · go_wp2_with fail
    go_ret
    exact ⟨rfl, hB⟩
  go_wp2_with fail
  have hbig0 : wtV x0.cd ≤ 1048576 := by omega
  have hbig1 : (x1.length + wtR (x1.map Eqn.cd)) ≤ 1048576 := by omega
  have hbig2 : (x2.length + wtR (x2.map Tm.cd)) ≤ 1048576 := by omega
  clear hs0 hs1 hs2
  have hrb : cntR (((sameSt x0 x1 x2).1).map Tm.cd) ≤ 100000000000000 := (sameSt_cnt1 x0 x1 x2 hbig1 hbig2)
  have hrb2 : cntR (((sameSt x0 x1 x2).2).map Stp.cd) ≤ 50000000000000 := (sameSt_cnt2 x0 x1 x2)
  have o_X0_S := hlX0
  have base_S := hz0
  have o_X0_U := hlX0
  have base_U := hz0
  refine (toSig_x x0 _ _ _ hbig0 (by exact hv0.below hB)).mono ?_
  rintro e ws0 ⟨s0, sf0, rfl, sr0, sg0, hb⟩
  replace X0 := cells_later X0 hlX0 hb
  replace hB := hB.trans (hb.mono hz0)
  have hzn := hb.size
  replace hlX0 := Nat.lt_of_lt_of_le hlX0 hzn
  replace hz0 := Nat.le_trans hz0 hzn
  clear hb hzn
  go_wp2_with fail
  refine (toEqS_x x1 _ _ _ hbig1 (by exact hv1.below hB)).mono ?_
  rintro e ws1 ⟨s1, sf1, rfl, sr1, sg1, hb⟩
  replace sr0 := sr0.below hb
  replace X0 := cells_later X0 hlX0 hb
  replace hB := hB.trans (hb.mono hz0)
  have hzn := hb.size
  replace hlX0 := Nat.lt_of_lt_of_le hlX0 hzn
  replace hz0 := Nat.le_trans hz0 hzn
  clear hb hzn
  go_wp2_with fail
  refine (toTermS_x x2 _ _ _ hbig2 (by exact hv2.below hB)).mono ?_
  rintro e ws2 ⟨s2, sf2, rfl, sr2, sg2, hb⟩
  replace sr0 := sr0.below hb
  replace sr1 := sr1.below hb
  replace X0 := cells_later X0 hlX0 hb
  replace hB := hB.trans (hb.mono hz0)
  have hzn := hb.size
  replace hlX0 := Nat.lt_of_lt_of_le hlX0 hzn
  replace hz0 := Nat.le_trans hz0 hzn
  clear hb hzn
  go_wp2_with fail
  refine (sameStepsS_any x0 x1 x2 _ _ _ _ _ _ _ (more_big hbig1 hbig2) (by exact sr0) (by exact sr1) (by exact sr2)).mono ?_
  rintro e wS ⟨vS, vU, f_S, f_U, rfl, r_S, r_U, fr_SU, hb⟩
  have fr_S := fr_SU.left
  have fr_U := fr_SU.right
  have dj_S : ∀ b ∈ f_S, b ∉ f_U := fun b h1 h2 => (List.nodup_append.1 fr_SU.1).2.2 b h1 b h2 rfl
  clear fr_SU
  have hi_S : ∀ b ∈ f_S, b < wS.heap.size := r_S.lt _
  have hi_U : ∀ b ∈ f_U, b < wS.heap.size := r_U.lt _
  replace X0 := cells_later X0 hlX0 hb
  replace hB := hB.trans (hb.mono hz0)
  have hzn := hb.size
  replace hlX0 := Nat.lt_of_lt_of_le hlX0 hzn
  replace hz0 := Nat.le_trans hz0 hzn
  clear hb hzn
  have hh_S : wS.heap.size ≤ wS.heap.size := Nat.le_refl _
  have hh_U : wS.heap.size ≤ wS.heap.size := Nat.le_refl _
  go_wp2_with fail
  have o_X0_T0 := hlX0
  have o_S_T0 := hh_S
  have o_U_T0 := hh_U
  have base_T0 := hz0
  refine (toSig_x x0 _ _ _ hbig0 (by exact hv0.below hB)).mono ?_
  rintro e wt0 ⟨t0, f_T0, rfl, r_T0, fr_T0, hb⟩
  have hi_T0 : ∀ b ∈ f_T0, b < wt0.heap.size := r_T0.lt
  replace X0 := cells_later X0 hlX0 hb
  replace r_S := r_S.below hb
  replace fr_S := fr_S.below hb
  replace r_U := r_U.below hb
  replace fr_U := fr_U.below hb
  replace hB := hB.trans (hb.mono hz0)
  have hzn := hb.size
  replace hlX0 := Nat.lt_of_lt_of_le hlX0 hzn
  replace hh_S := Nat.le_trans hh_S hzn
  replace hh_U := Nat.le_trans hh_U hzn
  replace hz0 := Nat.le_trans hz0 hzn
  clear hb hzn
  have hh_T0 : wt0.heap.size ≤ wt0.heap.size := Nat.le_refl _
  have r_T0' := r_T0
  obtain ⟨a0T0, c0T0, f0T0, rfl, _, _⟩ := Sg.open r_T0'
  have ZT0 := cell_new wt0 #[.slice a0T0 x0.syms.length c0T0] 25
  have o_S_ZT0 := hh_S
  have o_U_ZT0 := hh_U
  have o_T0_ZT0 := hh_T0
  have hb := below_alloc wt0 (.cells #[.slice a0T0 x0.syms.length c0T0] 25)
  have hzz : (wt0.alloc (.cells #[.slice a0T0 x0.syms.length c0T0] 25)).heap.size = wt0.heap.size + 1 := by simp
  replace X0 := cells_later X0 hlX0 hb
  replace r_S := r_S.below hb
  replace fr_S := fr_S.below hb
  replace r_U := r_U.below hb
  replace fr_U := fr_U.below hb
  replace r_T0 := r_T0.below hb
  replace fr_T0 := fr_T0.below hb
  replace hB := hB.trans (hb.mono hz0)
  have hzn := hb.size
  replace hlX0 := Nat.lt_of_lt_of_le hlX0 hzn
  replace hh_S := Nat.le_trans hh_S hzn
  replace hh_U := Nat.le_trans hh_U hzn
  replace hh_T0 := Nat.le_trans hh_T0 hzn
  replace hz0 := Nat.le_trans hz0 hzn
  clear hb hzn
  have hlZT0 : wt0.heap.size < (wt0.alloc (.cells #[.slice a0T0 x0.syms.length c0T0] 25)).heap.size := by simp
  go_wp2_with fail
  have o_X0_T1 := hlX0
  have o_ZT0_T1 := hlZT0
  have o_S_T1 := hh_S
  have o_U_T1 := hh_U
  have o_T0_T1 := hh_T0
  have base_T1 := hz0
  refine (toEqS_x x1 _ _ _ hbig1 (by exact hv1.below hB)).mono ?_
  rintro e wt1 ⟨t1, f_T1, rfl, r_T1, fr_T1, hb⟩
  have hi_T1 : ∀ b ∈ f_T1, b < wt1.heap.size := r_T1.lt _
  replace X0 := cells_later X0 hlX0 hb
  replace ZT0 := cells_later ZT0 hlZT0 hb
  replace r_S := r_S.below hb
  replace fr_S := fr_S.below hb
  replace r_U := r_U.below hb
  replace fr_U := fr_U.below hb
  replace r_T0 := r_T0.below hb
  replace fr_T0 := fr_T0.below hb
  replace hB := hB.trans (hb.mono hz0)
  have hzn := hb.size
  replace hlX0 := Nat.lt_of_lt_of_le hlX0 hzn
  replace hlZT0 := Nat.lt_of_lt_of_le hlZT0 hzn
  replace hh_S := Nat.le_trans hh_S hzn
  replace hh_U := Nat.le_trans hh_U hzn
  replace hh_T0 := Nat.le_trans hh_T0 hzn
  replace hz0 := Nat.le_trans hz0 hzn
  clear hb hzn
  have hh_T1 : wt1.heap.size ≤ wt1.heap.size := Nat.le_refl _
  go_wp2_with fail
  have o_X0_T2 := hlX0
  have o_ZT0_T2 := hlZT0
  have o_S_T2 := hh_S
  have o_U_T2 := hh_U
  have o_T0_T2 := hh_T0
  have o_T1_T2 := hh_T1
  have base_T2 := hz0
  refine (toTermS_x x2 _ _ _ hbig2 (by exact hv2.below hB)).mono ?_
  rintro e wt2 ⟨t2, f_T2, rfl, r_T2, fr_T2, hb⟩
  have hi_T2 : ∀ b ∈ f_T2, b < wt2.heap.size := r_T2.lt _
  replace X0 := cells_later X0 hlX0 hb
  replace ZT0 := cells_later ZT0 hlZT0 hb
  replace r_S := r_S.below hb
  replace fr_S := fr_S.below hb
  replace r_U := r_U.below hb
  replace fr_U := fr_U.below hb
  replace r_T0 := r_T0.below hb
  replace fr_T0 := fr_T0.below hb
  replace r_T1 := r_T1.below hb
  replace fr_T1 := fr_T1.below hb
  replace hB := hB.trans (hb.mono hz0)
  have hzn := hb.size
  replace hlX0 := Nat.lt_of_lt_of_le hlX0 hzn
  replace hlZT0 := Nat.lt_of_lt_of_le hlZT0 hzn
  replace hh_S := Nat.le_trans hh_S hzn
  replace hh_U := Nat.le_trans hh_U hzn
  replace hh_T0 := Nat.le_trans hh_T0 hzn
  replace hh_T1 := Nat.le_trans hh_T1 hzn
  replace hz0 := Nat.le_trans hz0 hzn
  clear hb hzn
  have hh_T2 : wt2.heap.size ≤ wt2.heap.size := Nat.le_refl _
  go_wp2_with fail
  have o_X0_G := hlX0
  have o_ZT0_G := hlZT0
  have o_S_G := hh_S
  have o_U_G := hh_U
  have o_T0_G := hh_T0
  have o_T1_G := hh_T1
  have o_T2_G := hh_T2
  have base_G := hz0
  have o_X0_V := hlX0
  have o_ZT0_V := hlZT0
  have o_S_V := hh_S
  have o_U_V := hh_U
  have o_T0_V := hh_T0
  have o_T1_V := hh_T1
  have o_T2_V := hh_T2
  have base_V := hz0
  refine (sameSteps_any x0 x1 x2 _ _ _ _ _ _ _ (more_big hbig1 hbig2) (by omega) (by exact r_T0) (by exact r_T1) (by exact r_T2)).mono ?_
  rintro e wG ⟨vG, vV, f_G, f_V, rfl, r_G, r_V, fr_GV, hb⟩
  have fr_G := fr_GV.left
  have fr_V := fr_GV.right
  have dj_G : ∀ b ∈ f_G, b ∉ f_V := fun b h1 h2 => (List.nodup_append.1 fr_GV.1).2.2 b h1 b h2 rfl
  clear fr_GV
  have hi_G : ∀ b ∈ f_G, b < wG.heap.size := r_G.lt _
  have hi_V : ∀ b ∈ f_V, b < wG.heap.size := r_V.lt _
  replace X0 := cells_later X0 hlX0 hb
  replace ZT0 := cells_later ZT0 hlZT0 hb
  replace r_S := r_S.below hb
  replace fr_S := fr_S.below hb
  replace r_U := r_U.below hb
  replace fr_U := fr_U.below hb
  replace r_T0 := r_T0.below hb
  replace fr_T0 := fr_T0.below hb
  replace r_T1 := r_T1.below hb
  replace fr_T1 := fr_T1.below hb
  replace r_T2 := r_T2.below hb
  replace fr_T2 := fr_T2.below hb
  replace hB := hB.trans (hb.mono hz0)
  have hzn := hb.size
  replace hlX0 := Nat.lt_of_lt_of_le hlX0 hzn
  replace hlZT0 := Nat.lt_of_lt_of_le hlZT0 hzn
  replace hh_S := Nat.le_trans hh_S hzn
  replace hh_U := Nat.le_trans hh_U hzn
  replace hh_T0 := Nat.le_trans hh_T0 hzn
  replace hh_T1 := Nat.le_trans hh_T1 hzn
  replace hh_T2 := Nat.le_trans hh_T2 hzn
  replace hz0 := Nat.le_trans hz0 hzn
  clear hb hzn
  have hh_G : wG.heap.size ≤ wG.heap.size := Nat.le_refl _
  have hh_V : wG.heap.size ≤ wG.heap.size := Nat.le_refl _
  go_wp2_with fail
  refine (eqTermS_x ((sameSt x0 x1 x2).1) _ _ _ _ _ (by exact r_G) (by exact r_S)).mono ?_
  rintro e we1 ⟨rfl, hb⟩
  replace X0 := cells_later X0 hlX0 hb
  replace ZT0 := cells_later ZT0 hlZT0 hb
  replace r_S := r_S.below hb
  replace fr_S := fr_S.below hb
  replace r_U := r_U.below hb
  replace fr_U := fr_U.below hb
  replace r_T0 := r_T0.below hb
  replace fr_T0 := fr_T0.below hb
  replace r_T1 := r_T1.below hb
  replace fr_T1 := fr_T1.below hb
  replace r_T2 := r_T2.below hb
  replace fr_T2 := fr_T2.below hb
  replace r_G := r_G.below hb
  replace fr_G := fr_G.below hb
  replace r_V := r_V.below hb
  replace fr_V := fr_V.below hb
  replace hB := hB.trans (hb.mono hz0)
  have hzn := hb.size
  replace hlX0 := Nat.lt_of_lt_of_le hlX0 hzn
  replace hlZT0 := Nat.lt_of_lt_of_le hlZT0 hzn
  replace hh_S := Nat.le_trans hh_S hzn
  replace hh_U := Nat.le_trans hh_U hzn
  replace hh_T0 := Nat.le_trans hh_T0 hzn
  replace hh_T1 := Nat.le_trans hh_T1 hzn
  replace hh_T2 := Nat.le_trans hh_T2 hzn
  replace hh_G := Nat.le_trans hh_G hzn
  replace hh_V := Nat.le_trans hh_V hzn
  replace hz0 := Nat.le_trans hz0 hzn
  clear hb hzn
  go_wp2_with fail
  refine (eqStepS_x ((sameSt x0 x1 x2).2) _ _ _ _ _ (by exact r_V) (by exact r_U)).mono ?_
  rintro e we2 ⟨rfl, hb⟩
  replace X0 := cells_later X0 hlX0 hb
  replace ZT0 := cells_later ZT0 hlZT0 hb
  replace r_S := r_S.below hb
  replace fr_S := fr_S.below hb
  replace r_U := r_U.below hb
  replace fr_U := fr_U.below hb
  replace r_T0 := r_T0.below hb
  replace fr_T0 := fr_T0.below hb
  replace r_T1 := r_T1.below hb
  replace fr_T1 := fr_T1.below hb
  replace r_T2 := r_T2.below hb
  replace fr_T2 := fr_T2.below hb
  replace r_G := r_G.below hb
  replace fr_G := fr_G.below hb
  replace r_V := r_V.below hb
  replace fr_V := fr_V.below hb
  replace hB := hB.trans (hb.mono hz0)
  have hzn := hb.size
  replace hlX0 := Nat.lt_of_lt_of_le hlX0 hzn
  replace hlZT0 := Nat.lt_of_lt_of_le hlZT0 hzn
  replace hh_S := Nat.le_trans hh_S hzn
  replace hh_U := Nat.le_trans hh_U hzn
  replace hh_T0 := Nat.le_trans hh_T0 hzn
  replace hh_T1 := Nat.le_trans hh_T1 hzn
  replace hh_T2 := Nat.le_trans hh_T2 hzn
  replace hh_G := Nat.le_trans hh_G hzn
  replace hh_V := Nat.le_trans hh_V hzn
  replace hz0 := Nat.le_trans hz0 hzn
  clear hb hzn
  go_wp2_with fail
  have C0_0 := X0 0
  have C1_0 := ZT0 0
  simp only [List.getElem?_toArray, List.getElem?_cons_zero, List.getElem?_cons_succ] at C0_0 C1_0
  go_region_held3 (fun W => W.cell? ⟨w.heap.size, 0, none⟩ = some (.slice a0A0 x0.syms.length c0A0) ∧ W.cell? ⟨wt0.heap.size, 0, none⟩ = some (.slice a0T0 x0.syms.length c0T0) ∧ Below w.heap.size w W)
    (first | exact ⟨C0_0, C1_0, hB.drew⟩ | (refine ⟨?_, ?_, hB.trans ((below_undrew' hbE0).mono hB.size)⟩ <;> (refine (cell_keep ?_ (below_undrew' hbE0)); assumption)) | (refine (cell_keep ?_ (below_undrew' hbE0)); assumption) | exact hB.trans ((below_undrew' hbE0).mono hB.size) | (refine ⟨?_, ?_, (hB.trans ((below_undrew' hbE0).mono hB.size)).trans (hbF0.mono (hB.trans ((below_undrew' hbE0).mono hB.size)).size)⟩ <;> (refine (cell_keep (cell_keep ?_ (below_undrew' hbE0)) hbF0); assumption)) | (refine (cell_keep (cell_keep ?_ (below_undrew' hbE0)) hbF0); assumption) | exact (hB.trans ((below_undrew' hbE0).mono hB.size)).trans (hbF0.mono (hB.trans ((below_undrew' hbE0).mono hB.size)).size))
    (first | (go_at_call 31; (with_reducible refine (toSig_x x0 _ _ _ hbig0 (by exact hv0.below (hB.drew))).mono ?_); rintro e wE0 ⟨u0, uf0, rfl, ur0, ug0, hbE0⟩) | (go_at_call 35; (with_reducible refine (eqSig_x x0 _ _ _ _ _ (by exact r_T0.below ((below_undrew' hbE0))) (by exact ur0)).mono ?_); rintro e wF0 ⟨rfl, hbF0⟩))
  have hb := below_undrew' hbE0
  clear hbE0
  replace X0 := cells_later X0 hlX0 hb
  replace ZT0 := cells_later ZT0 hlZT0 hb
  replace r_S := r_S.below hb
  replace fr_S := fr_S.below hb
  replace r_U := r_U.below hb
  replace fr_U := fr_U.below hb
  replace r_T0 := r_T0.below hb
  replace fr_T0 := fr_T0.below hb
  replace r_T1 := r_T1.below hb
  replace fr_T1 := fr_T1.below hb
  replace r_T2 := r_T2.below hb
  replace fr_T2 := fr_T2.below hb
  replace r_G := r_G.below hb
  replace fr_G := fr_G.below hb
  replace r_V := r_V.below hb
  replace fr_V := fr_V.below hb
  replace hB := hB.trans (hb.mono hz0)
  have hzn := hb.size
  replace hlX0 := Nat.lt_of_lt_of_le hlX0 hzn
  replace hlZT0 := Nat.lt_of_lt_of_le hlZT0 hzn
  replace hh_S := Nat.le_trans hh_S hzn
  replace hh_U := Nat.le_trans hh_U hzn
  replace hh_T0 := Nat.le_trans hh_T0 hzn
  replace hh_T1 := Nat.le_trans hh_T1 hzn
  replace hh_T2 := Nat.le_trans hh_T2 hzn
  replace hh_G := Nat.le_trans hh_G hzn
  replace hh_V := Nat.le_trans hh_V hzn
  replace hz0 := Nat.le_trans hz0 hzn
  clear hb hzn
  have hb := hbF0
  clear hbF0
  replace X0 := cells_later X0 hlX0 hb
  replace ZT0 := cells_later ZT0 hlZT0 hb
  replace r_S := r_S.below hb
  replace fr_S := fr_S.below hb
  replace r_U := r_U.below hb
  replace fr_U := fr_U.below hb
  replace r_T0 := r_T0.below hb
  replace fr_T0 := fr_T0.below hb
  replace r_T1 := r_T1.below hb
  replace fr_T1 := fr_T1.below hb
  replace r_T2 := r_T2.below hb
  replace fr_T2 := fr_T2.below hb
  replace r_G := r_G.below hb
  replace fr_G := fr_G.below hb
  replace r_V := r_V.below hb
  replace fr_V := fr_V.below hb
  replace hB := hB.trans (hb.mono hz0)
  have hzn := hb.size
  replace hlX0 := Nat.lt_of_lt_of_le hlX0 hzn
  replace hlZT0 := Nat.lt_of_lt_of_le hlZT0 hzn
  replace hh_S := Nat.le_trans hh_S hzn
  replace hh_U := Nat.le_trans hh_U hzn
  replace hh_T0 := Nat.le_trans hh_T0 hzn
  replace hh_T1 := Nat.le_trans hh_T1 hzn
  replace hh_T2 := Nat.le_trans hh_T2 hzn
  replace hh_G := Nat.le_trans hh_G hzn
  replace hh_V := Nat.le_trans hh_V hzn
  replace hz0 := Nat.le_trans hz0 hzn
  clear hb hzn
  clear C0_0 C1_0
  go_wp2_with fail
  refine (toEqS_x x1 _ _ _ hbig1 (by exact hv1.below hB)).mono ?_
  rintro e wu1 ⟨u1, uf1, rfl, ur1, ug1, hb⟩
  replace X0 := cells_later X0 hlX0 hb
  replace ZT0 := cells_later ZT0 hlZT0 hb
  replace r_S := r_S.below hb
  replace fr_S := fr_S.below hb
  replace r_U := r_U.below hb
  replace fr_U := fr_U.below hb
  replace r_T0 := r_T0.below hb
  replace fr_T0 := fr_T0.below hb
  replace r_T1 := r_T1.below hb
  replace fr_T1 := fr_T1.below hb
  replace r_T2 := r_T2.below hb
  replace fr_T2 := fr_T2.below hb
  replace r_G := r_G.below hb
  replace fr_G := fr_G.below hb
  replace r_V := r_V.below hb
  replace fr_V := fr_V.below hb
  replace hB := hB.trans (hb.mono hz0)
  have hzn := hb.size
  replace hlX0 := Nat.lt_of_lt_of_le hlX0 hzn
  replace hlZT0 := Nat.lt_of_lt_of_le hlZT0 hzn
  replace hh_S := Nat.le_trans hh_S hzn
  replace hh_U := Nat.le_trans hh_U hzn
  replace hh_T0 := Nat.le_trans hh_T0 hzn
  replace hh_T1 := Nat.le_trans hh_T1 hzn
  replace hh_T2 := Nat.le_trans hh_T2 hzn
  replace hh_G := Nat.le_trans hh_G hzn
  replace hh_V := Nat.le_trans hh_V hzn
  replace hz0 := Nat.le_trans hz0 hzn
  clear hb hzn
  go_wp2_with fail
  refine (eqEqS_x x1 _ _ _ _ _ (by exact r_T1) (by exact ur1)).mono ?_
  rintro e wv1 ⟨rfl, hb⟩
  replace X0 := cells_later X0 hlX0 hb
  replace ZT0 := cells_later ZT0 hlZT0 hb
  replace r_S := r_S.below hb
  replace fr_S := fr_S.below hb
  replace r_U := r_U.below hb
  replace fr_U := fr_U.below hb
  replace r_T0 := r_T0.below hb
  replace fr_T0 := fr_T0.below hb
  replace r_T1 := r_T1.below hb
  replace fr_T1 := fr_T1.below hb
  replace r_T2 := r_T2.below hb
  replace fr_T2 := fr_T2.below hb
  replace r_G := r_G.below hb
  replace fr_G := fr_G.below hb
  replace r_V := r_V.below hb
  replace fr_V := fr_V.below hb
  replace hB := hB.trans (hb.mono hz0)
  have hzn := hb.size
  replace hlX0 := Nat.lt_of_lt_of_le hlX0 hzn
  replace hlZT0 := Nat.lt_of_lt_of_le hlZT0 hzn
  replace hh_S := Nat.le_trans hh_S hzn
  replace hh_U := Nat.le_trans hh_U hzn
  replace hh_T0 := Nat.le_trans hh_T0 hzn
  replace hh_T1 := Nat.le_trans hh_T1 hzn
  replace hh_T2 := Nat.le_trans hh_T2 hzn
  replace hh_G := Nat.le_trans hh_G hzn
  replace hh_V := Nat.le_trans hh_V hzn
  replace hz0 := Nat.le_trans hz0 hzn
  clear hb hzn
  go_wp2_with fail
  refine (toTermS_x x2 _ _ _ hbig2 (by exact hv2.below hB)).mono ?_
  rintro e wu2 ⟨u2, uf2, rfl, ur2, ug2, hb⟩
  replace X0 := cells_later X0 hlX0 hb
  replace ZT0 := cells_later ZT0 hlZT0 hb
  replace r_S := r_S.below hb
  replace fr_S := fr_S.below hb
  replace r_U := r_U.below hb
  replace fr_U := fr_U.below hb
  replace r_T0 := r_T0.below hb
  replace fr_T0 := fr_T0.below hb
  replace r_T1 := r_T1.below hb
  replace fr_T1 := fr_T1.below hb
  replace r_T2 := r_T2.below hb
  replace fr_T2 := fr_T2.below hb
  replace r_G := r_G.below hb
  replace fr_G := fr_G.below hb
  replace r_V := r_V.below hb
  replace fr_V := fr_V.below hb
  replace hB := hB.trans (hb.mono hz0)
  have hzn := hb.size
  replace hlX0 := Nat.lt_of_lt_of_le hlX0 hzn
  replace hlZT0 := Nat.lt_of_lt_of_le hlZT0 hzn
  replace hh_S := Nat.le_trans hh_S hzn
  replace hh_U := Nat.le_trans hh_U hzn
  replace hh_T0 := Nat.le_trans hh_T0 hzn
  replace hh_T1 := Nat.le_trans hh_T1 hzn
  replace hh_T2 := Nat.le_trans hh_T2 hzn
  replace hh_G := Nat.le_trans hh_G hzn
  replace hh_V := Nat.le_trans hh_V hzn
  replace hz0 := Nat.le_trans hz0 hzn
  clear hb hzn
  go_wp2_with fail
  refine (eqTermS_x x2 _ _ _ _ _ (by exact r_T2) (by exact ur2)).mono ?_
  rintro e wv2 ⟨rfl, hb⟩
  replace X0 := cells_later X0 hlX0 hb
  replace ZT0 := cells_later ZT0 hlZT0 hb
  replace r_S := r_S.below hb
  replace fr_S := fr_S.below hb
  replace r_U := r_U.below hb
  replace fr_U := fr_U.below hb
  replace r_T0 := r_T0.below hb
  replace fr_T0 := fr_T0.below hb
  replace r_T1 := r_T1.below hb
  replace fr_T1 := fr_T1.below hb
  replace r_T2 := r_T2.below hb
  replace fr_T2 := fr_T2.below hb
  replace r_G := r_G.below hb
  replace fr_G := fr_G.below hb
  replace r_V := r_V.below hb
  replace fr_V := fr_V.below hb
  replace hB := hB.trans (hb.mono hz0)
  have hzn := hb.size
  replace hlX0 := Nat.lt_of_lt_of_le hlX0 hzn
  replace hlZT0 := Nat.lt_of_lt_of_le hlZT0 hzn
  replace hh_S := Nat.le_trans hh_S hzn
  replace hh_U := Nat.le_trans hh_U hzn
  replace hh_T0 := Nat.le_trans hh_T0 hzn
  replace hh_T1 := Nat.le_trans hh_T1 hzn
  replace hh_T2 := Nat.le_trans hh_T2 hzn
  replace hh_G := Nat.le_trans hh_G hzn
  replace hh_V := Nat.le_trans hh_V hzn
  replace hz0 := Nat.le_trans hz0 hzn
  clear hb hzn
  go_wp2_with fail
  have hcb0 : cntT x0.cd ≤ 16777216 := by have := Sg.cdT_cnt x0; omega
  refine (markSig_x x0 _ _ (1) _ (by omega) (by omega) (by exact r_T0) fr_T0.free fr_T0.1).mono ?_
  rintro e wm0 ⟨rfl, _, _, ho⟩
  replace X0 := MkV.cells ho hlX0 (fun h => by have := (fr_T0.2 _ h).1; have := hi_T0 _ h; omega) X0
  replace ZT0 := MkV.cells ho hlZT0 (fun h => by have := (fr_T0.2 _ h).1; have := hi_T0 _ h; omega) ZT0
  have so : SameOn f_S _ _ := ho.same (fun b hb => Nat.lt_of_lt_of_le (hi_S b hb) hh_S) (fun b hb hx => by have := hi_S b hb; have := (fr_S.2 b hb).1; have := hi_T0 b hx; have := (fr_T0.2 b hx).1; omega)
  replace r_S := r_S.same _ so
  replace fr_S := fr_S.same so
  clear so
  have so : SameOn f_U _ _ := ho.same (fun b hb => Nat.lt_of_lt_of_le (hi_U b hb) hh_U) (fun b hb hx => by have := hi_U b hb; have := (fr_U.2 b hb).1; have := hi_T0 b hx; have := (fr_T0.2 b hx).1; omega)
  replace r_U := r_U.same _ so
  replace fr_U := fr_U.same so
  clear so
  have so : SameOn f_T1 _ _ := ho.same (fun b hb => Nat.lt_of_lt_of_le (hi_T1 b hb) hh_T1) (fun b hb hx => by have := hi_T1 b hb; have := (fr_T1.2 b hb).1; have := hi_T0 b hx; have := (fr_T0.2 b hx).1; omega)
  replace r_T1 := r_T1.same _ so
  replace fr_T1 := fr_T1.same so
  clear so
  have so : SameOn f_T2 _ _ := ho.same (fun b hb => Nat.lt_of_lt_of_le (hi_T2 b hb) hh_T2) (fun b hb hx => by have := hi_T2 b hb; have := (fr_T2.2 b hb).1; have := hi_T0 b hx; have := (fr_T0.2 b hx).1; omega)
  replace r_T2 := r_T2.same _ so
  replace fr_T2 := fr_T2.same so
  clear so
  have so : SameOn f_G _ _ := ho.same (fun b hb => Nat.lt_of_lt_of_le (hi_G b hb) hh_G) (fun b hb hx => by have := hi_G b hb; have := (fr_G.2 b hb).1; have := hi_T0 b hx; have := (fr_T0.2 b hx).1; omega)
  replace r_G := r_G.same _ so
  replace fr_G := fr_G.same so
  clear so
  have so : SameOn f_V _ _ := ho.same (fun b hb => Nat.lt_of_lt_of_le (hi_V b hb) hh_V) (fun b hb hx => by have := hi_V b hb; have := (fr_V.2 b hb).1; have := hi_T0 b hx; have := (fr_T0.2 b hx).1; omega)
  replace r_V := r_V.same _ so
  replace fr_V := fr_V.same so
  clear so
  replace hB := hB.trans (ho.toBelow (B := w.heap.size) hz0 (fun b hb => by have := (fr_T0.2 b hb).1; omega))
  have hzn := ho.size
  replace hlX0 := Nat.lt_of_lt_of_le hlX0 hzn
  replace hlZT0 := Nat.lt_of_lt_of_le hlZT0 hzn
  replace hh_S := Nat.le_trans hh_S hzn
  replace hh_U := Nat.le_trans hh_U hzn
  replace hh_T0 := Nat.le_trans hh_T0 hzn
  replace hh_T1 := Nat.le_trans hh_T1 hzn
  replace hh_T2 := Nat.le_trans hh_T2 hzn
  replace hh_G := Nat.le_trans hh_G hzn
  replace hh_V := Nat.le_trans hh_V hzn
  replace hz0 := Nat.le_trans hz0 hzn
  clear ho hzn
  clear r_T0 fr_T0
  go_wp2_with fail
  have hcb1 : cntR (x1.map Eqn.cd) ≤ 16777216 := by have := cntR_wt (f := Eqn.cd) (xs := x1) (fun y _ => Eqn.cd_cnt y); omega
  refine (markEqS_x x1 _ _ (1 + cntT x0.cd) _ (by omega) (by omega) r_T1 fr_T1.free fr_T1.1).mono ?_
  rintro e wm1 ⟨rfl, _, _, ho⟩
  replace X0 := MkV.cells ho hlX0 (fun h => by have := (fr_T1.2 _ h).1; have := hi_T1 _ h; omega) X0
  replace ZT0 := MkV.cells ho hlZT0 (fun h => by have := (fr_T1.2 _ h).1; have := hi_T1 _ h; omega) ZT0
  have so : SameOn f_S _ _ := ho.same (fun b hb => Nat.lt_of_lt_of_le (hi_S b hb) hh_S) (fun b hb hx => by have := hi_S b hb; have := (fr_S.2 b hb).1; have := hi_T1 b hx; have := (fr_T1.2 b hx).1; omega)
  replace r_S := r_S.same _ so
  replace fr_S := fr_S.same so
  clear so
  have so : SameOn f_U _ _ := ho.same (fun b hb => Nat.lt_of_lt_of_le (hi_U b hb) hh_U) (fun b hb hx => by have := hi_U b hb; have := (fr_U.2 b hb).1; have := hi_T1 b hx; have := (fr_T1.2 b hx).1; omega)
  replace r_U := r_U.same _ so
  replace fr_U := fr_U.same so
  clear so
  have so : SameOn f_T2 _ _ := ho.same (fun b hb => Nat.lt_of_lt_of_le (hi_T2 b hb) hh_T2) (fun b hb hx => by have := hi_T2 b hb; have := (fr_T2.2 b hb).1; have := hi_T1 b hx; have := (fr_T1.2 b hx).1; omega)
  replace r_T2 := r_T2.same _ so
  replace fr_T2 := fr_T2.same so
  clear so
  have so : SameOn f_G _ _ := ho.same (fun b hb => Nat.lt_of_lt_of_le (hi_G b hb) hh_G) (fun b hb hx => by have := hi_G b hb; have := (fr_G.2 b hb).1; have := hi_T1 b hx; have := (fr_T1.2 b hx).1; omega)
  replace r_G := r_G.same _ so
  replace fr_G := fr_G.same so
  clear so
  have so : SameOn f_V _ _ := ho.same (fun b hb => Nat.lt_of_lt_of_le (hi_V b hb) hh_V) (fun b hb hx => by have := hi_V b hb; have := (fr_V.2 b hb).1; have := hi_T1 b hx; have := (fr_T1.2 b hx).1; omega)
  replace r_V := r_V.same _ so
  replace fr_V := fr_V.same so
  clear so
  replace hB := hB.trans (ho.toBelow (B := w.heap.size) hz0 (fun b hb => by have := (fr_T1.2 b hb).1; omega))
  have hzn := ho.size
  replace hlX0 := Nat.lt_of_lt_of_le hlX0 hzn
  replace hlZT0 := Nat.lt_of_lt_of_le hlZT0 hzn
  replace hh_S := Nat.le_trans hh_S hzn
  replace hh_U := Nat.le_trans hh_U hzn
  replace hh_T1 := Nat.le_trans hh_T1 hzn
  replace hh_T2 := Nat.le_trans hh_T2 hzn
  replace hh_G := Nat.le_trans hh_G hzn
  replace hh_V := Nat.le_trans hh_V hzn
  replace hz0 := Nat.le_trans hz0 hzn
  clear ho hzn
  clear r_T1 fr_T1
  go_wp2_with fail
  have hcb2 : cntR (x2.map Tm.cd) ≤ 16777216 := by have := cntR_wt (f := Tm.cd) (xs := x2) (fun y _ => Tm.cd_cnt y); omega
  refine (markTermS_x x2 _ _ (1 + cntT x0.cd + cntR (x1.map Eqn.cd)) _ (by omega) (by omega) r_T2 fr_T2.free fr_T2.1).mono ?_
  rintro e wm2 ⟨rfl, _, _, ho⟩
  replace X0 := MkV.cells ho hlX0 (fun h => by have := (fr_T2.2 _ h).1; have := hi_T2 _ h; omega) X0
  replace ZT0 := MkV.cells ho hlZT0 (fun h => by have := (fr_T2.2 _ h).1; have := hi_T2 _ h; omega) ZT0
  have so : SameOn f_S _ _ := ho.same (fun b hb => Nat.lt_of_lt_of_le (hi_S b hb) hh_S) (fun b hb hx => by have := hi_S b hb; have := (fr_S.2 b hb).1; have := hi_T2 b hx; have := (fr_T2.2 b hx).1; omega)
  replace r_S := r_S.same _ so
  replace fr_S := fr_S.same so
  clear so
  have so : SameOn f_U _ _ := ho.same (fun b hb => Nat.lt_of_lt_of_le (hi_U b hb) hh_U) (fun b hb hx => by have := hi_U b hb; have := (fr_U.2 b hb).1; have := hi_T2 b hx; have := (fr_T2.2 b hx).1; omega)
  replace r_U := r_U.same _ so
  replace fr_U := fr_U.same so
  clear so
  have so : SameOn f_G _ _ := ho.same (fun b hb => Nat.lt_of_lt_of_le (hi_G b hb) hh_G) (fun b hb hx => by have := hi_G b hb; have := (fr_G.2 b hb).1; have := hi_T2 b hx; have := (fr_T2.2 b hx).1; omega)
  replace r_G := r_G.same _ so
  replace fr_G := fr_G.same so
  clear so
  have so : SameOn f_V _ _ := ho.same (fun b hb => Nat.lt_of_lt_of_le (hi_V b hb) hh_V) (fun b hb hx => by have := hi_V b hb; have := (fr_V.2 b hb).1; have := hi_T2 b hx; have := (fr_T2.2 b hx).1; omega)
  replace r_V := r_V.same _ so
  replace fr_V := fr_V.same so
  clear so
  replace hB := hB.trans (ho.toBelow (B := w.heap.size) hz0 (fun b hb => by have := (fr_T2.2 b hb).1; omega))
  have hzn := ho.size
  replace hlX0 := Nat.lt_of_lt_of_le hlX0 hzn
  replace hlZT0 := Nat.lt_of_lt_of_le hlZT0 hzn
  replace hh_S := Nat.le_trans hh_S hzn
  replace hh_U := Nat.le_trans hh_U hzn
  replace hh_T2 := Nat.le_trans hh_T2 hzn
  replace hh_G := Nat.le_trans hh_G hzn
  replace hh_V := Nat.le_trans hh_V hzn
  replace hz0 := Nat.le_trans hz0 hzn
  clear ho hzn
  clear r_T2 fr_T2
  have hneg : decide (((1 + cntT x0.cd + cntR (x1.map Eqn.cd) + cntR (x2.map Tm.cd) : Int)) < 0) = false := by simp; omega
  go_wp2_with fail
  clear hneg
  refine (eqTermS_x ((sameSt x0 x1 x2).1) _ _ _ _ _ (by exact r_G) (by exact r_S)).mono ?_
  rintro e we3 ⟨rfl, hb⟩
  replace X0 := cells_later X0 hlX0 hb
  replace ZT0 := cells_later ZT0 hlZT0 hb
  replace r_S := r_S.below hb
  replace fr_S := fr_S.below hb
  replace r_U := r_U.below hb
  replace fr_U := fr_U.below hb
  replace r_G := r_G.below hb
  replace fr_G := fr_G.below hb
  replace r_V := r_V.below hb
  replace fr_V := fr_V.below hb
  replace hB := hB.trans (hb.mono hz0)
  have hzn := hb.size
  replace hlX0 := Nat.lt_of_lt_of_le hlX0 hzn
  replace hlZT0 := Nat.lt_of_lt_of_le hlZT0 hzn
  replace hh_S := Nat.le_trans hh_S hzn
  replace hh_U := Nat.le_trans hh_U hzn
  replace hh_G := Nat.le_trans hh_G hzn
  replace hh_V := Nat.le_trans hh_V hzn
  replace hz0 := Nat.le_trans hz0 hzn
  clear hb hzn
  go_wp2_with fail
  refine (eqStepS_x ((sameSt x0 x1 x2).2) _ _ _ _ _ (by exact r_V) (by exact r_U)).mono ?_
  rintro e we4 ⟨rfl, hb⟩
  replace X0 := cells_later X0 hlX0 hb
  replace ZT0 := cells_later ZT0 hlZT0 hb
  replace r_S := r_S.below hb
  replace fr_S := fr_S.below hb
  replace r_U := r_U.below hb
  replace fr_U := fr_U.below hb
  replace r_G := r_G.below hb
  replace fr_G := fr_G.below hb
  replace r_V := r_V.below hb
  replace fr_V := fr_V.below hb
  replace hB := hB.trans (hb.mono hz0)
  have hzn := hb.size
  replace hlX0 := Nat.lt_of_lt_of_le hlX0 hzn
  replace hlZT0 := Nat.lt_of_lt_of_le hlZT0 hzn
  replace hh_S := Nat.le_trans hh_S hzn
  replace hh_U := Nat.le_trans hh_U hzn
  replace hh_G := Nat.le_trans hh_G hzn
  replace hh_V := Nat.le_trans hh_V hzn
  replace hz0 := Nat.le_trans hz0 hzn
  clear hb hzn
  go_wp2_with fail
  refine (markTermS_x ((sameSt x0 x1 x2).1) _ _ 1 _ (by omega) (by omega) r_G fr_G.free fr_G.1).mono ?_
  rintro e wM ⟨rfl, r_G', hfm, ho⟩
  replace X0 := MkV.cells ho hlX0 (fun h => by have := (fr_G.2 _ h).1; have := hi_G _ h; omega) X0
  replace ZT0 := MkV.cells ho hlZT0 (fun h => by have := (fr_G.2 _ h).1; have := hi_G _ h; omega) ZT0
  have so : SameOn f_S _ _ := ho.same (fun b hb => Nat.lt_of_lt_of_le (hi_S b hb) hh_S) (fun b hb hx => by have := hi_S b hb; have := (fr_S.2 b hb).1; have := hi_G b hx; have := (fr_G.2 b hx).1; omega)
  replace r_S := r_S.same _ so
  replace fr_S := fr_S.same so
  clear so
  have so : SameOn f_U _ _ := ho.same (fun b hb => Nat.lt_of_lt_of_le (hi_U b hb) hh_U) (fun b hb hx => by have := hi_U b hb; have := (fr_U.2 b hb).1; have := hi_G b hx; have := (fr_G.2 b hx).1; omega)
  replace r_U := r_U.same _ so
  replace fr_U := fr_U.same so
  clear so
  have so : SameOn f_V _ _ := ho.same (fun b hb => Nat.lt_of_lt_of_le (hi_V b hb) hh_V) (fun b hb hx => dj_G b hx hb)
  replace r_V := r_V.same _ so
  replace fr_V := fr_V.same so
  clear so
  replace hB := hB.trans (ho.toBelow (B := w.heap.size) hz0 (fun b hb => by have := (fr_G.2 b hb).1; omega))
  have hzn := ho.size
  replace hlX0 := Nat.lt_of_lt_of_le hlX0 hzn
  replace hlZT0 := Nat.lt_of_lt_of_le hlZT0 hzn
  replace hh_S := Nat.le_trans hh_S hzn
  replace hh_U := Nat.le_trans hh_U hzn
  replace hh_G := Nat.le_trans hh_G hzn
  replace hh_V := Nat.le_trans hh_V hzn
  replace hz0 := Nat.le_trans hz0 hzn
  clear ho hzn
  have fr_M : True := trivial
  clear r_G fr_G
  have r_G := r_G'
  clear r_G' hfm
  go_wp2_with fail
  refine (markStepS_x ((sameSt x0 x1 x2).2) _ _ (1 + cntR (((sameSt x0 x1 x2).1).map Tm.cd)) _ (by omega) (by omega) r_V fr_V.free fr_V.1).mono ?_
  rintro e wN ⟨rfl, r_V', hfm, ho⟩
  have so : SameOn f_G _ _ := ho.same (fun b hb => r_G.lt _ b hb) (fun b hb hx => dj_G b hb hx)
  replace r_G := r_G.same _ so
  clear so
  replace X0 := MkV.cells ho hlX0 (fun h => by have := (fr_V.2 _ h).1; have := hi_V _ h; omega) X0
  replace ZT0 := MkV.cells ho hlZT0 (fun h => by have := (fr_V.2 _ h).1; have := hi_V _ h; omega) ZT0
  have so : SameOn f_S _ _ := ho.same (fun b hb => Nat.lt_of_lt_of_le (hi_S b hb) hh_S) (fun b hb hx => by have := hi_S b hb; have := (fr_S.2 b hb).1; have := hi_V b hx; have := (fr_V.2 b hx).1; omega)
  replace r_S := r_S.same _ so
  replace fr_S := fr_S.same so
  clear so
  have so : SameOn f_U _ _ := ho.same (fun b hb => Nat.lt_of_lt_of_le (hi_U b hb) hh_U) (fun b hb hx => by have := hi_U b hb; have := (fr_U.2 b hb).1; have := hi_V b hx; have := (fr_V.2 b hx).1; omega)
  replace r_U := r_U.same _ so
  replace fr_U := fr_U.same so
  clear so
  replace hB := hB.trans (ho.toBelow (B := w.heap.size) hz0 (fun b hb => by have := (fr_V.2 b hb).1; omega))
  have hzn := ho.size
  replace hlX0 := Nat.lt_of_lt_of_le hlX0 hzn
  replace hlZT0 := Nat.lt_of_lt_of_le hlZT0 hzn
  replace hh_S := Nat.le_trans hh_S hzn
  replace hh_U := Nat.le_trans hh_U hzn
  replace hh_V := Nat.le_trans hh_V hzn
  replace hz0 := Nat.le_trans hz0 hzn
  clear ho hzn
  clear r_V fr_V
  have r_V := r_V'
  clear r_V' hfm
  go_wp2_with fail
  refine (heldTermS_x ((sameSt x0 x1 x2).1) _ _ 1 _ (by omega) (by omega) r_G).mono ?_
  rintro e wh5 ⟨rfl, hb⟩
  replace r_G := r_G.below hb
  replace r_V := r_V.below hb
  replace X0 := cells_later X0 hlX0 hb
  replace ZT0 := cells_later ZT0 hlZT0 hb
  replace r_S := r_S.below hb
  replace fr_S := fr_S.below hb
  replace r_U := r_U.below hb
  replace fr_U := fr_U.below hb
  replace hB := hB.trans (hb.mono hz0)
  have hzn := hb.size
  replace hlX0 := Nat.lt_of_lt_of_le hlX0 hzn
  replace hlZT0 := Nat.lt_of_lt_of_le hlZT0 hzn
  replace hh_S := Nat.le_trans hh_S hzn
  replace hh_U := Nat.le_trans hh_U hzn
  replace hz0 := Nat.le_trans hz0 hzn
  clear hb hzn
  have hneg : decide (((1 + cntR (((sameSt x0 x1 x2).1).map Tm.cd) : Int)) < 0) = false := by simp; omega
  go_wp2_with fail
  clear hneg
  refine (heldStepS_x ((sameSt x0 x1 x2).2) _ _ (1 + cntR (((sameSt x0 x1 x2).1).map Tm.cd)) _ (by omega) (by omega) r_V).mono ?_
  rintro e wh6 ⟨rfl, hb⟩
  replace r_G := r_G.below hb
  replace r_V := r_V.below hb
  replace X0 := cells_later X0 hlX0 hb
  replace ZT0 := cells_later ZT0 hlZT0 hb
  replace r_S := r_S.below hb
  replace fr_S := fr_S.below hb
  replace r_U := r_U.below hb
  replace fr_U := fr_U.below hb
  replace hB := hB.trans (hb.mono hz0)
  have hzn := hb.size
  replace hlX0 := Nat.lt_of_lt_of_le hlX0 hzn
  replace hlZT0 := Nat.lt_of_lt_of_le hlZT0 hzn
  replace hh_S := Nat.le_trans hh_S hzn
  replace hh_U := Nat.le_trans hh_U hzn
  replace hz0 := Nat.le_trans hz0 hzn
  clear hb hzn
  have hneg : decide (((1 + cntR (((sameSt x0 x1 x2).1).map Tm.cd) + cntR (((sameSt x0 x1 x2).2).map Stp.cd) : Int)) < 0) = false := by simp; omega
  have hne : ((1 + cntR (((sameSt x0 x1 x2).1).map Tm.cd) + cntR (((sameSt x0 x1 x2).2).map Stp.cd) : Int) != (1 + cntR (((sameSt x0 x1 x2).1).map Tm.cd) + cntR (((sameSt x0 x1 x2).2).map Stp.cd) : Int)) = false := by simp
  go_wp2_with fail
  clear hneg hne
  refine (toSig_x x0 _ _ _ hbig0 (by exact hv0.below hB)).mono ?_
  rintro e wy0 ⟨y0, yf0, rfl, yr0, yg0, hb⟩
  replace r_G := r_G.below hb
  replace r_V := r_V.below hb
  replace X0 := cells_later X0 hlX0 hb
  replace ZT0 := cells_later ZT0 hlZT0 hb
  replace r_S := r_S.below hb
  replace fr_S := fr_S.below hb
  replace r_U := r_U.below hb
  replace fr_U := fr_U.below hb
  replace hB := hB.trans (hb.mono hz0)
  have hzn := hb.size
  replace hlX0 := Nat.lt_of_lt_of_le hlX0 hzn
  replace hlZT0 := Nat.lt_of_lt_of_le hlZT0 hzn
  replace hh_S := Nat.le_trans hh_S hzn
  replace hh_U := Nat.le_trans hh_U hzn
  replace hz0 := Nat.le_trans hz0 hzn
  clear hb hzn
  go_wp2_with fail
  refine (toEqS_x x1 _ _ _ hbig1 (by exact hv1.below hB)).mono ?_
  rintro e wy1 ⟨y1, yf1, rfl, yr1, yg1, hb⟩
  replace yr0 := yr0.below hb
  replace r_G := r_G.below hb
  replace r_V := r_V.below hb
  replace X0 := cells_later X0 hlX0 hb
  replace ZT0 := cells_later ZT0 hlZT0 hb
  replace r_S := r_S.below hb
  replace fr_S := fr_S.below hb
  replace r_U := r_U.below hb
  replace fr_U := fr_U.below hb
  replace hB := hB.trans (hb.mono hz0)
  have hzn := hb.size
  replace hlX0 := Nat.lt_of_lt_of_le hlX0 hzn
  replace hlZT0 := Nat.lt_of_lt_of_le hlZT0 hzn
  replace hh_S := Nat.le_trans hh_S hzn
  replace hh_U := Nat.le_trans hh_U hzn
  replace hz0 := Nat.le_trans hz0 hzn
  clear hb hzn
  go_wp2_with fail
  refine (toTermS_x x2 _ _ _ hbig2 (by exact hv2.below hB)).mono ?_
  rintro e wy2 ⟨y2, yf2, rfl, yr2, yg2, hb⟩
  replace yr0 := yr0.below hb
  replace yr1 := yr1.below hb
  replace r_G := r_G.below hb
  replace r_V := r_V.below hb
  replace X0 := cells_later X0 hlX0 hb
  replace ZT0 := cells_later ZT0 hlZT0 hb
  replace r_S := r_S.below hb
  replace fr_S := fr_S.below hb
  replace r_U := r_U.below hb
  replace fr_U := fr_U.below hb
  replace hB := hB.trans (hb.mono hz0)
  have hzn := hb.size
  replace hlX0 := Nat.lt_of_lt_of_le hlX0 hzn
  replace hlZT0 := Nat.lt_of_lt_of_le hlZT0 hzn
  replace hh_S := Nat.le_trans hh_S hzn
  replace hh_U := Nat.le_trans hh_U hzn
  replace hz0 := Nat.le_trans hz0 hzn
  clear hb hzn
  go_wp2_with fail
  refine (sameSteps_any x0 x1 x2 _ _ _ _ _ _ _ (more_big hbig1 hbig2) (by omega) (by exact yr0) (by exact yr1) (by exact yr2)).mono ?_
  rintro e wH ⟨vH, vY, f_H, f_Y, rfl, r_H, r_Y, fr_HY, hb⟩
  replace r_G := r_G.below hb
  replace r_V := r_V.below hb
  replace X0 := cells_later X0 hlX0 hb
  replace ZT0 := cells_later ZT0 hlZT0 hb
  replace r_S := r_S.below hb
  replace fr_S := fr_S.below hb
  replace r_U := r_U.below hb
  replace fr_U := fr_U.below hb
  replace hB := hB.trans (hb.mono hz0)
  have hzn := hb.size
  replace hlX0 := Nat.lt_of_lt_of_le hlX0 hzn
  replace hlZT0 := Nat.lt_of_lt_of_le hlZT0 hzn
  replace hh_S := Nat.le_trans hh_S hzn
  replace hh_U := Nat.le_trans hh_U hzn
  replace hz0 := Nat.le_trans hz0 hzn
  clear hb hzn
  go_wp2_with fail
  refine (eqTermS_x ((sameSt x0 x1 x2).1) _ _ _ _ _ (by exact r_H) (by exact r_S)).mono ?_
  rintro e we7 ⟨rfl, hb⟩
  replace r_Y := r_Y.below hb
  replace r_G := r_G.below hb
  replace r_V := r_V.below hb
  replace X0 := cells_later X0 hlX0 hb
  replace ZT0 := cells_later ZT0 hlZT0 hb
  replace r_S := r_S.below hb
  replace fr_S := fr_S.below hb
  replace r_U := r_U.below hb
  replace fr_U := fr_U.below hb
  replace hB := hB.trans (hb.mono hz0)
  have hzn := hb.size
  replace hlX0 := Nat.lt_of_lt_of_le hlX0 hzn
  replace hlZT0 := Nat.lt_of_lt_of_le hlZT0 hzn
  replace hh_S := Nat.le_trans hh_S hzn
  replace hh_U := Nat.le_trans hh_U hzn
  replace hz0 := Nat.le_trans hz0 hzn
  clear hb hzn
  go_wp2_with fail
  refine (eqStepS_x ((sameSt x0 x1 x2).2) _ _ _ _ _ (by exact r_Y) (by exact r_U)).mono ?_
  rintro e we8 ⟨rfl, hb⟩
  replace r_G := r_G.below hb
  replace r_V := r_V.below hb
  replace X0 := cells_later X0 hlX0 hb
  replace ZT0 := cells_later ZT0 hlZT0 hb
  replace r_S := r_S.below hb
  replace fr_S := fr_S.below hb
  replace r_U := r_U.below hb
  replace fr_U := fr_U.below hb
  replace hB := hB.trans (hb.mono hz0)
  have hzn := hb.size
  replace hlX0 := Nat.lt_of_lt_of_le hlX0 hzn
  replace hlZT0 := Nat.lt_of_lt_of_le hlZT0 hzn
  replace hh_S := Nat.le_trans hh_S hzn
  replace hh_U := Nat.le_trans hh_U hzn
  replace hz0 := Nat.le_trans hz0 hzn
  clear hb hzn
  go_wp2_with fail
  refine (heldTermS_x ((sameSt x0 x1 x2).1) _ _ 1 _ (by omega) (by omega) r_G).mono ?_
  rintro e wh9 ⟨rfl, hb⟩
  replace r_G := r_G.below hb
  replace r_V := r_V.below hb
  replace X0 := cells_later X0 hlX0 hb
  replace ZT0 := cells_later ZT0 hlZT0 hb
  replace r_S := r_S.below hb
  replace fr_S := fr_S.below hb
  replace r_U := r_U.below hb
  replace fr_U := fr_U.below hb
  replace hB := hB.trans (hb.mono hz0)
  have hzn := hb.size
  replace hlX0 := Nat.lt_of_lt_of_le hlX0 hzn
  replace hlZT0 := Nat.lt_of_lt_of_le hlZT0 hzn
  replace hh_S := Nat.le_trans hh_S hzn
  replace hh_U := Nat.le_trans hh_U hzn
  replace hz0 := Nat.le_trans hz0 hzn
  clear hb hzn
  have hneg : decide (((1 + cntR (((sameSt x0 x1 x2).1).map Tm.cd) : Int)) < 0) = false := by simp; omega
  go_wp2_with fail
  clear hneg
  refine (heldStepS_x ((sameSt x0 x1 x2).2) _ _ (1 + cntR (((sameSt x0 x1 x2).1).map Tm.cd)) _ (by omega) (by omega) r_V).mono ?_
  rintro e wh10 ⟨rfl, hb⟩
  replace r_G := r_G.below hb
  replace r_V := r_V.below hb
  replace X0 := cells_later X0 hlX0 hb
  replace ZT0 := cells_later ZT0 hlZT0 hb
  replace r_S := r_S.below hb
  replace fr_S := fr_S.below hb
  replace r_U := r_U.below hb
  replace fr_U := fr_U.below hb
  replace hB := hB.trans (hb.mono hz0)
  have hzn := hb.size
  replace hlX0 := Nat.lt_of_lt_of_le hlX0 hzn
  replace hlZT0 := Nat.lt_of_lt_of_le hlZT0 hzn
  replace hh_S := Nat.le_trans hh_S hzn
  replace hh_U := Nat.le_trans hh_U hzn
  replace hz0 := Nat.le_trans hz0 hzn
  clear hb hzn
  have hneg : decide (((1 + cntR (((sameSt x0 x1 x2).1).map Tm.cd) + cntR (((sameSt x0 x1 x2).2).map Stp.cd) : Int)) < 0) = false := by simp; omega
  have hne : ((1 + cntR (((sameSt x0 x1 x2).1).map Tm.cd) + cntR (((sameSt x0 x1 x2).2).map Stp.cd) : Int) != (1 + cntR (((sameSt x0 x1 x2).1).map Tm.cd) + cntR (((sameSt x0 x1 x2).2).map Stp.cd) : Int)) = false := by simp
  go_wp2_with fail
  clear hneg hne
  go_ret
  exact ⟨rfl, hB⟩
end Go.Proofs.Ytgokggnmacjafaa
