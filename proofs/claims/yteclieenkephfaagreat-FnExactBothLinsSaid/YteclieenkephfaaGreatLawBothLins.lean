/- The law FnExactBothLins returns true. -/
import Derived.Deep.RegionHeld3
import Derived.Test.YteclieenkephfaaGreatLinX
import Derived.Test.YteclieenkephfaaGreatCnt
import Derived.Test.YteclieenkephfaaGreatExSz
import Derived.Test.YteclieenkephfaaGreatExTo
import Derived.Test.YteclieenkephfaaGreatExEq
namespace Go.Proofs.YteclieenkephfaaGreat
open Go Go.RowKit
set_option linter.unusedVariables false
set_option linter.unusedSimpArgs false
theorem ln_row : ∀ (xs : List Ln), (∀ x ∈ xs, x.coefs.length ≤ 4) → cntR (xs.map Ln.cd) ≤ 1000 * xs.length
  | [], _ => by simp [cntR]
  | x :: xs, h => by
    have h1 := ln_row xs (fun y hy => h y (by simp [hy]))
    have h2 := h x (by simp)
    have h3 : cntV x.cd ≤ 900 := by
      have h4 := cntR_wt (f := intCd) (xs := x.coefs) (fun y _ => intCd_cnt y)
      rw [wtR_ints] at h4
      simp only [Ln.cd, cntV_append]
      simp only [cntV, cnt]
      omega
    simp only [List.map_cons, cntR, List.length_cons]
    omega
theorem linC_len (nums : List Tm) : ∀ (ts : List Tm) (xs c : List Int), (linC nums ts xs c).length = c.length
  | [], xs, c => by cases xs <;> rfl
  | t :: ts, [], c => rfl
  | t :: ts, x :: xs, c => by unfold linC; rw [linC_len nums ts xs]; unfold addAt; rw [List.length_set]
theorem lins_few (nums : List Tm) (ls : List Lt) : ∀ x ∈ linsP nums ls, x.coefs.length ≤ 4 := by
  intro x hx
  obtain ⟨l, _, hl⟩ := List.mem_flatMap.1 hx
  unfold lins1 at hl
  split at hl
  · obtain rfl := List.mem_singleton.1 hl
    unfold turnL sumL
    split
    · unfold Ln.not
      split
      · simp only [List.length_map, linC_len]; simp [z4]
      · simp [Ln.zero]
    · simp only [linC_len]; simp [z4]
  · split at hl
    · simp only [eqL, List.mem_cons, List.not_mem_nil, or_false] at hl
      rcases hl with rfl | rfl <;> (simp only [linC_len]; simp [z4])
    · simp at hl
theorem linsB_cnt (s : Sg) (ls : List Lt) (h : ls.length ≤ 1048576) : cntR ((linsB s ls).map Ln.cd) ≤ 100000000000000 := by
  have h1 := linsB_len s ls
  have h2 := ln_row (linsB s ls) (by
    unfold linsB; split
    · exact lins_few _ _
    · simp)
  omega
set_option maxRecDepth 100000 in
set_option maxHeartbeats 4000000 in
theorem exBothLins_walk (x0 : Sg) (v0 : List Value) (f0 : List Nat) (x1 : List Lt) (v1 : Value) (f1 : List Nat) (w : World) (hv0 : RdVs w x0.cd v0 f0) (hv1 : Rd w (.sl (x1.map Lt.cd)) v1 f1) :
    Calls Tryz.prog 3 #[.agg v0.toArray, v1] w fun e w' => e = .returned (.bool true) ∧ Below w.heap.size w w' := by
  obtain ⟨a0A0, c0A0, f0A0, rfl, _, _⟩ := Sg.open hv0
  obtain ⟨p1, q1, rfl, hc1, hd1⟩ := rd_sl_inv hv1
  go_enter Tryz.func3, Tryz.ntmps3
  go_wp2_with fail
  refine (szSig_x x0 _ _ _ _ (by omega) (by omega) (by exact hv0.below (below_alloc _ _))).mono ?_
  rintro e w1 ⟨⟨r0, rfl, hr0⟩, hb⟩
  obtain ⟨X0, hz, hB⟩ := box1 (w := w) (wr := w1) (cs := #[.slice a0A0 x0.syms.length c0A0]) (T := 24) (below_size hb (by simp))
  have hz0 := hB.size
  have hlX0 : w.heap.size < w1.heap.size := by omega
  clear hb
  rcases hr0 with ⟨hs0, rfl⟩ | ⟨hs0, rfl⟩
  rotate_left
  · go_wp2_with fail
    go_ret
    exact ⟨rfl, hB⟩
  go_wp2_with fail
  refine (szLitS_x x1 _ _ _ _ (by omega) (by omega) (by exact hv1.below hB)).mono ?_
  rintro e w2 ⟨⟨r1, rfl, hr1⟩, hb⟩
  replace X0 := cells_later X0 hlX0 hb
  replace hB := hB.trans (hb.mono hz0)
  have hzn := hb.size
  replace hlX0 := Nat.lt_of_lt_of_le hlX0 hzn
  replace hz0 := Nat.le_trans hz0 hzn
  clear hb hzn
  rcases hr1 with ⟨hs1, rfl⟩ | ⟨hs1, rfl⟩
  rotate_left
  · go_wp2_with fail
    go_ret
    exact ⟨rfl, hB⟩
  go_wp2_with fail
  have hbig0 : wtV x0.cd ≤ 1048576 := by omega
  have hbig1 : (x1.length + wtR (x1.map Lt.cd)) ≤ 1048576 := by omega
  clear hs0 hs1
  have hrb : cntR ((linsB x0 x1).map Ln.cd) ≤ 100000000000000 := (linsB_cnt x0 x1 (by omega))
  have o_X0_S := hlX0
  have base_S := hz0
  refine (toSig_x x0 _ _ _ hbig0 (by exact hv0.below hB)).mono ?_
  rintro e ws0 ⟨s0, sf0, rfl, sr0, sg0, hb⟩
  replace X0 := cells_later X0 hlX0 hb
  replace hB := hB.trans (hb.mono hz0)
  have hzn := hb.size
  replace hlX0 := Nat.lt_of_lt_of_le hlX0 hzn
  replace hz0 := Nat.le_trans hz0 hzn
  clear hb hzn
  go_wp2_with fail
  refine (toLitS_x x1 _ _ _ hbig1 (by exact hv1.below hB)).mono ?_
  rintro e ws1 ⟨s1, sf1, rfl, sr1, sg1, hb⟩
  replace sr0 := sr0.below hb
  replace X0 := cells_later X0 hlX0 hb
  replace hB := hB.trans (hb.mono hz0)
  have hzn := hb.size
  replace hlX0 := Nat.lt_of_lt_of_le hlX0 hzn
  replace hz0 := Nat.le_trans hz0 hzn
  clear hb hzn
  go_wp2_with fail
  refine (bothLinsS_any x0 x1 _ _ _ _ _ (lits_small hbig1) (by have := litsU_wt x1; omega) (by omega) (by exact sr0) (by exact sr1)).mono ?_
  rintro e wS ⟨vS, f_S, rfl, r_S, fr_S, hb⟩
  have hi_S : ∀ b ∈ f_S, b < wS.heap.size := r_S.lt _
  replace X0 := cells_later X0 hlX0 hb
  replace hB := hB.trans (hb.mono hz0)
  have hzn := hb.size
  replace hlX0 := Nat.lt_of_lt_of_le hlX0 hzn
  replace hz0 := Nat.le_trans hz0 hzn
  clear hb hzn
  have hh_S : wS.heap.size ≤ wS.heap.size := Nat.le_refl _
  go_wp2_with fail
  have o_X0_T0 := hlX0
  have o_S_T0 := hh_S
  have base_T0 := hz0
  refine (toSig_x x0 _ _ _ hbig0 (by exact hv0.below hB)).mono ?_
  rintro e wt0 ⟨t0, f_T0, rfl, r_T0, fr_T0, hb⟩
  have hi_T0 : ∀ b ∈ f_T0, b < wt0.heap.size := r_T0.lt
  replace X0 := cells_later X0 hlX0 hb
  replace r_S := r_S.below hb
  replace fr_S := fr_S.below hb
  replace hB := hB.trans (hb.mono hz0)
  have hzn := hb.size
  replace hlX0 := Nat.lt_of_lt_of_le hlX0 hzn
  replace hh_S := Nat.le_trans hh_S hzn
  replace hz0 := Nat.le_trans hz0 hzn
  clear hb hzn
  have hh_T0 : wt0.heap.size ≤ wt0.heap.size := Nat.le_refl _
  have r_T0' := r_T0
  obtain ⟨a0T0, c0T0, f0T0, rfl, _, _⟩ := Sg.open r_T0'
  have ZT0 := cell_new wt0 #[.slice a0T0 x0.syms.length c0T0] 32
  have o_S_ZT0 := hh_S
  have o_T0_ZT0 := hh_T0
  have hb := below_alloc wt0 (.cells #[.slice a0T0 x0.syms.length c0T0] 32)
  have hzz : (wt0.alloc (.cells #[.slice a0T0 x0.syms.length c0T0] 32)).heap.size = wt0.heap.size + 1 := by simp
  replace X0 := cells_later X0 hlX0 hb
  replace r_S := r_S.below hb
  replace fr_S := fr_S.below hb
  replace r_T0 := r_T0.below hb
  replace fr_T0 := fr_T0.below hb
  replace hB := hB.trans (hb.mono hz0)
  have hzn := hb.size
  replace hlX0 := Nat.lt_of_lt_of_le hlX0 hzn
  replace hh_S := Nat.le_trans hh_S hzn
  replace hh_T0 := Nat.le_trans hh_T0 hzn
  replace hz0 := Nat.le_trans hz0 hzn
  clear hb hzn
  have hlZT0 : wt0.heap.size < (wt0.alloc (.cells #[.slice a0T0 x0.syms.length c0T0] 32)).heap.size := by simp
  go_wp2_with fail
  have o_X0_T1 := hlX0
  have o_ZT0_T1 := hlZT0
  have o_S_T1 := hh_S
  have o_T0_T1 := hh_T0
  have base_T1 := hz0
  refine (toLitS_x x1 _ _ _ hbig1 (by exact hv1.below hB)).mono ?_
  rintro e wt1 ⟨t1, f_T1, rfl, r_T1, fr_T1, hb⟩
  have hi_T1 : ∀ b ∈ f_T1, b < wt1.heap.size := r_T1.lt _
  replace X0 := cells_later X0 hlX0 hb
  replace ZT0 := cells_later ZT0 hlZT0 hb
  replace r_S := r_S.below hb
  replace fr_S := fr_S.below hb
  replace r_T0 := r_T0.below hb
  replace fr_T0 := fr_T0.below hb
  replace hB := hB.trans (hb.mono hz0)
  have hzn := hb.size
  replace hlX0 := Nat.lt_of_lt_of_le hlX0 hzn
  replace hlZT0 := Nat.lt_of_lt_of_le hlZT0 hzn
  replace hh_S := Nat.le_trans hh_S hzn
  replace hh_T0 := Nat.le_trans hh_T0 hzn
  replace hz0 := Nat.le_trans hz0 hzn
  clear hb hzn
  have hh_T1 : wt1.heap.size ≤ wt1.heap.size := Nat.le_refl _
  go_wp2_with fail
  have o_X0_G := hlX0
  have o_ZT0_G := hlZT0
  have o_S_G := hh_S
  have o_T0_G := hh_T0
  have o_T1_G := hh_T1
  have base_G := hz0
  refine (bothLins_any x0 x1 _ _ _ _ _ (lits_small hbig1) (by have := litsT_wt x1; omega) (by omega) (by exact r_T0) (by exact r_T1)).mono ?_
  rintro e wG ⟨vG, f_G, rfl, r_G, fr_G, hb⟩
  have hi_G : ∀ b ∈ f_G, b < wG.heap.size := r_G.lt _
  replace X0 := cells_later X0 hlX0 hb
  replace ZT0 := cells_later ZT0 hlZT0 hb
  replace r_S := r_S.below hb
  replace fr_S := fr_S.below hb
  replace r_T0 := r_T0.below hb
  replace fr_T0 := fr_T0.below hb
  replace r_T1 := r_T1.below hb
  replace fr_T1 := fr_T1.below hb
  replace hB := hB.trans (hb.mono hz0)
  have hzn := hb.size
  replace hlX0 := Nat.lt_of_lt_of_le hlX0 hzn
  replace hlZT0 := Nat.lt_of_lt_of_le hlZT0 hzn
  replace hh_S := Nat.le_trans hh_S hzn
  replace hh_T0 := Nat.le_trans hh_T0 hzn
  replace hh_T1 := Nat.le_trans hh_T1 hzn
  replace hz0 := Nat.le_trans hz0 hzn
  clear hb hzn
  have hh_G : wG.heap.size ≤ wG.heap.size := Nat.le_refl _
  go_wp2_with fail
  refine (eqLinS_x (linsB x0 x1) _ _ _ _ _ (by exact r_G) (by exact r_S)).mono ?_
  rintro e we1 ⟨rfl, hb⟩
  replace X0 := cells_later X0 hlX0 hb
  replace ZT0 := cells_later ZT0 hlZT0 hb
  replace r_S := r_S.below hb
  replace fr_S := fr_S.below hb
  replace r_T0 := r_T0.below hb
  replace fr_T0 := fr_T0.below hb
  replace r_T1 := r_T1.below hb
  replace fr_T1 := fr_T1.below hb
  replace r_G := r_G.below hb
  replace fr_G := fr_G.below hb
  replace hB := hB.trans (hb.mono hz0)
  have hzn := hb.size
  replace hlX0 := Nat.lt_of_lt_of_le hlX0 hzn
  replace hlZT0 := Nat.lt_of_lt_of_le hlZT0 hzn
  replace hh_S := Nat.le_trans hh_S hzn
  replace hh_T0 := Nat.le_trans hh_T0 hzn
  replace hh_T1 := Nat.le_trans hh_T1 hzn
  replace hh_G := Nat.le_trans hh_G hzn
  replace hz0 := Nat.le_trans hz0 hzn
  clear hb hzn
  go_wp2_with fail
  have C0_0 := X0 0
  have C1_0 := ZT0 0
  simp only [List.getElem?_toArray, List.getElem?_cons_zero, List.getElem?_cons_succ] at C0_0 C1_0
  go_region_held3 (fun W => W.cell? ⟨w.heap.size, 0, none⟩ = some (.slice a0A0 x0.syms.length c0A0) ∧ W.cell? ⟨wt0.heap.size, 0, none⟩ = some (.slice a0T0 x0.syms.length c0T0) ∧ Below w.heap.size w W)
    (first | exact ⟨C0_0, C1_0, hB.drew⟩ | (refine ⟨?_, ?_, hB.trans ((below_undrew' hbE0).mono hB.size)⟩ <;> (refine (cell_keep ?_ (below_undrew' hbE0)); assumption)) | (refine (cell_keep ?_ (below_undrew' hbE0)); assumption) | exact hB.trans ((below_undrew' hbE0).mono hB.size) | (refine ⟨?_, ?_, (hB.trans ((below_undrew' hbE0).mono hB.size)).trans (hbF0.mono (hB.trans ((below_undrew' hbE0).mono hB.size)).size)⟩ <;> (refine (cell_keep (cell_keep ?_ (below_undrew' hbE0)) hbF0); assumption)) | (refine (cell_keep (cell_keep ?_ (below_undrew' hbE0)) hbF0); assumption) | exact (hB.trans ((below_undrew' hbE0).mono hB.size)).trans (hbF0.mono (hB.trans ((below_undrew' hbE0).mono hB.size)).size))
    (first | (go_at_call 7; (with_reducible refine (toSig_x x0 _ _ _ hbig0 (by exact hv0.below (hB.drew))).mono ?_); rintro e wE0 ⟨u0, uf0, rfl, ur0, ug0, hbE0⟩) | (go_at_call 11; (with_reducible refine (eqSig_x x0 _ _ _ _ _ (by exact r_T0.below ((below_undrew' hbE0))) (by exact ur0)).mono ?_); rintro e wF0 ⟨rfl, hbF0⟩))
  have hb := below_undrew' hbE0
  clear hbE0
  replace X0 := cells_later X0 hlX0 hb
  replace ZT0 := cells_later ZT0 hlZT0 hb
  replace r_S := r_S.below hb
  replace fr_S := fr_S.below hb
  replace r_T0 := r_T0.below hb
  replace fr_T0 := fr_T0.below hb
  replace r_T1 := r_T1.below hb
  replace fr_T1 := fr_T1.below hb
  replace r_G := r_G.below hb
  replace fr_G := fr_G.below hb
  replace hB := hB.trans (hb.mono hz0)
  have hzn := hb.size
  replace hlX0 := Nat.lt_of_lt_of_le hlX0 hzn
  replace hlZT0 := Nat.lt_of_lt_of_le hlZT0 hzn
  replace hh_S := Nat.le_trans hh_S hzn
  replace hh_T0 := Nat.le_trans hh_T0 hzn
  replace hh_T1 := Nat.le_trans hh_T1 hzn
  replace hh_G := Nat.le_trans hh_G hzn
  replace hz0 := Nat.le_trans hz0 hzn
  clear hb hzn
  have hb := hbF0
  clear hbF0
  replace X0 := cells_later X0 hlX0 hb
  replace ZT0 := cells_later ZT0 hlZT0 hb
  replace r_S := r_S.below hb
  replace fr_S := fr_S.below hb
  replace r_T0 := r_T0.below hb
  replace fr_T0 := fr_T0.below hb
  replace r_T1 := r_T1.below hb
  replace fr_T1 := fr_T1.below hb
  replace r_G := r_G.below hb
  replace fr_G := fr_G.below hb
  replace hB := hB.trans (hb.mono hz0)
  have hzn := hb.size
  replace hlX0 := Nat.lt_of_lt_of_le hlX0 hzn
  replace hlZT0 := Nat.lt_of_lt_of_le hlZT0 hzn
  replace hh_S := Nat.le_trans hh_S hzn
  replace hh_T0 := Nat.le_trans hh_T0 hzn
  replace hh_T1 := Nat.le_trans hh_T1 hzn
  replace hh_G := Nat.le_trans hh_G hzn
  replace hz0 := Nat.le_trans hz0 hzn
  clear hb hzn
  clear C0_0 C1_0
  go_wp2_with fail
  refine (toLitS_x x1 _ _ _ hbig1 (by exact hv1.below hB)).mono ?_
  rintro e wu1 ⟨u1, uf1, rfl, ur1, ug1, hb⟩
  replace X0 := cells_later X0 hlX0 hb
  replace ZT0 := cells_later ZT0 hlZT0 hb
  replace r_S := r_S.below hb
  replace fr_S := fr_S.below hb
  replace r_T0 := r_T0.below hb
  replace fr_T0 := fr_T0.below hb
  replace r_T1 := r_T1.below hb
  replace fr_T1 := fr_T1.below hb
  replace r_G := r_G.below hb
  replace fr_G := fr_G.below hb
  replace hB := hB.trans (hb.mono hz0)
  have hzn := hb.size
  replace hlX0 := Nat.lt_of_lt_of_le hlX0 hzn
  replace hlZT0 := Nat.lt_of_lt_of_le hlZT0 hzn
  replace hh_S := Nat.le_trans hh_S hzn
  replace hh_T0 := Nat.le_trans hh_T0 hzn
  replace hh_T1 := Nat.le_trans hh_T1 hzn
  replace hh_G := Nat.le_trans hh_G hzn
  replace hz0 := Nat.le_trans hz0 hzn
  clear hb hzn
  go_wp2_with fail
  refine (eqLitS_x x1 _ _ _ _ _ (by exact r_T1) (by exact ur1)).mono ?_
  rintro e wv1 ⟨rfl, hb⟩
  replace X0 := cells_later X0 hlX0 hb
  replace ZT0 := cells_later ZT0 hlZT0 hb
  replace r_S := r_S.below hb
  replace fr_S := fr_S.below hb
  replace r_T0 := r_T0.below hb
  replace fr_T0 := fr_T0.below hb
  replace r_T1 := r_T1.below hb
  replace fr_T1 := fr_T1.below hb
  replace r_G := r_G.below hb
  replace fr_G := fr_G.below hb
  replace hB := hB.trans (hb.mono hz0)
  have hzn := hb.size
  replace hlX0 := Nat.lt_of_lt_of_le hlX0 hzn
  replace hlZT0 := Nat.lt_of_lt_of_le hlZT0 hzn
  replace hh_S := Nat.le_trans hh_S hzn
  replace hh_T0 := Nat.le_trans hh_T0 hzn
  replace hh_T1 := Nat.le_trans hh_T1 hzn
  replace hh_G := Nat.le_trans hh_G hzn
  replace hz0 := Nat.le_trans hz0 hzn
  clear hb hzn
  go_wp2_with fail
  have hcb0 : cntT x0.cd ≤ 16777216 := by have := Sg.cdT_cnt x0; omega
  refine (markSig_x x0 _ _ (1) _ (by omega) (by omega) (by exact r_T0) fr_T0.free fr_T0.1).mono ?_
  rintro e wm0 ⟨rfl, _, _, ho⟩
  replace X0 := MkV.cells ho hlX0 (fun h => by have := (fr_T0.2 _ h).1; have := hi_T0 _ h; omega) X0
  replace ZT0 := MkV.cells ho hlZT0 (fun h => by have := (fr_T0.2 _ h).1; have := hi_T0 _ h; omega) ZT0
  have so : SameOn f_S _ _ := ho.same (fun b hb => Nat.lt_of_lt_of_le (hi_S b hb) hh_S) (fun b hb hx => by have := hi_S b hb; have := (fr_S.2 b hb).1; have := hi_T0 b hx; have := (fr_T0.2 b hx).1; omega)
  replace r_S := r_S.same _ so
  replace fr_S := fr_S.same so
  clear so
  have so : SameOn f_T1 _ _ := ho.same (fun b hb => Nat.lt_of_lt_of_le (hi_T1 b hb) hh_T1) (fun b hb hx => by have := hi_T1 b hb; have := (fr_T1.2 b hb).1; have := hi_T0 b hx; have := (fr_T0.2 b hx).1; omega)
  replace r_T1 := r_T1.same _ so
  replace fr_T1 := fr_T1.same so
  clear so
  have so : SameOn f_G _ _ := ho.same (fun b hb => Nat.lt_of_lt_of_le (hi_G b hb) hh_G) (fun b hb hx => by have := hi_G b hb; have := (fr_G.2 b hb).1; have := hi_T0 b hx; have := (fr_T0.2 b hx).1; omega)
  replace r_G := r_G.same _ so
  replace fr_G := fr_G.same so
  clear so
  replace hB := hB.trans (ho.toBelow (B := w.heap.size) hz0 (fun b hb => by have := (fr_T0.2 b hb).1; omega))
  have hzn := ho.size
  replace hlX0 := Nat.lt_of_lt_of_le hlX0 hzn
  replace hlZT0 := Nat.lt_of_lt_of_le hlZT0 hzn
  replace hh_S := Nat.le_trans hh_S hzn
  replace hh_T0 := Nat.le_trans hh_T0 hzn
  replace hh_T1 := Nat.le_trans hh_T1 hzn
  replace hh_G := Nat.le_trans hh_G hzn
  replace hz0 := Nat.le_trans hz0 hzn
  clear ho hzn
  clear r_T0 fr_T0
  go_wp2_with fail
  have hcb1 : cntR (x1.map Lt.cd) ≤ 16777216 := by have := cntR_wt (f := Lt.cd) (xs := x1) (fun y _ => Lt.cd_cnt y); omega
  refine (markLitS_x x1 _ _ (1 + cntT x0.cd) _ (by omega) (by omega) r_T1 fr_T1.free fr_T1.1).mono ?_
  rintro e wm1 ⟨rfl, _, _, ho⟩
  replace X0 := MkV.cells ho hlX0 (fun h => by have := (fr_T1.2 _ h).1; have := hi_T1 _ h; omega) X0
  replace ZT0 := MkV.cells ho hlZT0 (fun h => by have := (fr_T1.2 _ h).1; have := hi_T1 _ h; omega) ZT0
  have so : SameOn f_S _ _ := ho.same (fun b hb => Nat.lt_of_lt_of_le (hi_S b hb) hh_S) (fun b hb hx => by have := hi_S b hb; have := (fr_S.2 b hb).1; have := hi_T1 b hx; have := (fr_T1.2 b hx).1; omega)
  replace r_S := r_S.same _ so
  replace fr_S := fr_S.same so
  clear so
  have so : SameOn f_G _ _ := ho.same (fun b hb => Nat.lt_of_lt_of_le (hi_G b hb) hh_G) (fun b hb hx => by have := hi_G b hb; have := (fr_G.2 b hb).1; have := hi_T1 b hx; have := (fr_T1.2 b hx).1; omega)
  replace r_G := r_G.same _ so
  replace fr_G := fr_G.same so
  clear so
  replace hB := hB.trans (ho.toBelow (B := w.heap.size) hz0 (fun b hb => by have := (fr_T1.2 b hb).1; omega))
  have hzn := ho.size
  replace hlX0 := Nat.lt_of_lt_of_le hlX0 hzn
  replace hlZT0 := Nat.lt_of_lt_of_le hlZT0 hzn
  replace hh_S := Nat.le_trans hh_S hzn
  replace hh_T1 := Nat.le_trans hh_T1 hzn
  replace hh_G := Nat.le_trans hh_G hzn
  replace hz0 := Nat.le_trans hz0 hzn
  clear ho hzn
  clear r_T1 fr_T1
  have hneg : decide (((1 + cntT x0.cd + cntR (x1.map Lt.cd) : Int)) < 0) = false := by simp; omega
  go_wp2_with fail
  clear hneg
  refine (eqLinS_x (linsB x0 x1) _ _ _ _ _ (by exact r_G) (by exact r_S)).mono ?_
  rintro e we2 ⟨rfl, hb⟩
  replace X0 := cells_later X0 hlX0 hb
  replace ZT0 := cells_later ZT0 hlZT0 hb
  replace r_S := r_S.below hb
  replace fr_S := fr_S.below hb
  replace r_G := r_G.below hb
  replace fr_G := fr_G.below hb
  replace hB := hB.trans (hb.mono hz0)
  have hzn := hb.size
  replace hlX0 := Nat.lt_of_lt_of_le hlX0 hzn
  replace hlZT0 := Nat.lt_of_lt_of_le hlZT0 hzn
  replace hh_S := Nat.le_trans hh_S hzn
  replace hh_G := Nat.le_trans hh_G hzn
  replace hz0 := Nat.le_trans hz0 hzn
  clear hb hzn
  go_wp2_with fail
  refine (markLinS_x (linsB x0 x1) _ _ 1 _ (by omega) (by omega) r_G fr_G.free fr_G.1).mono ?_
  rintro e wM ⟨rfl, r_G', hfm, ho⟩
  replace X0 := MkV.cells ho hlX0 (fun h => by have := (fr_G.2 _ h).1; have := hi_G _ h; omega) X0
  replace ZT0 := MkV.cells ho hlZT0 (fun h => by have := (fr_G.2 _ h).1; have := hi_G _ h; omega) ZT0
  have so : SameOn f_S _ _ := ho.same (fun b hb => Nat.lt_of_lt_of_le (hi_S b hb) hh_S) (fun b hb hx => by have := hi_S b hb; have := (fr_S.2 b hb).1; have := hi_G b hx; have := (fr_G.2 b hx).1; omega)
  replace r_S := r_S.same _ so
  replace fr_S := fr_S.same so
  clear so
  replace hB := hB.trans (ho.toBelow (B := w.heap.size) hz0 (fun b hb => by have := (fr_G.2 b hb).1; omega))
  have hzn := ho.size
  replace hlX0 := Nat.lt_of_lt_of_le hlX0 hzn
  replace hlZT0 := Nat.lt_of_lt_of_le hlZT0 hzn
  replace hh_S := Nat.le_trans hh_S hzn
  replace hh_G := Nat.le_trans hh_G hzn
  replace hz0 := Nat.le_trans hz0 hzn
  clear ho hzn
  have fr_M : True := trivial
  clear r_G fr_G
  have r_G := r_G'
  clear r_G' hfm
  go_wp2_with fail
  refine (heldLinS_x (linsB x0 x1) _ _ 1 _ (by omega) (by omega) r_G).mono ?_
  rintro e wh3 ⟨rfl, hb⟩
  replace r_G := r_G.below hb
  replace X0 := cells_later X0 hlX0 hb
  replace ZT0 := cells_later ZT0 hlZT0 hb
  replace r_S := r_S.below hb
  replace fr_S := fr_S.below hb
  replace hB := hB.trans (hb.mono hz0)
  have hzn := hb.size
  replace hlX0 := Nat.lt_of_lt_of_le hlX0 hzn
  replace hlZT0 := Nat.lt_of_lt_of_le hlZT0 hzn
  replace hh_S := Nat.le_trans hh_S hzn
  replace hz0 := Nat.le_trans hz0 hzn
  clear hb hzn
  have hneg : decide (((1 + cntR ((linsB x0 x1).map Ln.cd) : Int)) < 0) = false := by simp; omega
  have hne : ((1 + cntR ((linsB x0 x1).map Ln.cd) : Int) != (1 + cntR ((linsB x0 x1).map Ln.cd) : Int)) = false := by simp
  go_wp2_with fail
  clear hneg hne
  refine (toSig_x x0 _ _ _ hbig0 (by exact hv0.below hB)).mono ?_
  rintro e wy0 ⟨y0, yf0, rfl, yr0, yg0, hb⟩
  replace r_G := r_G.below hb
  replace X0 := cells_later X0 hlX0 hb
  replace ZT0 := cells_later ZT0 hlZT0 hb
  replace r_S := r_S.below hb
  replace fr_S := fr_S.below hb
  replace hB := hB.trans (hb.mono hz0)
  have hzn := hb.size
  replace hlX0 := Nat.lt_of_lt_of_le hlX0 hzn
  replace hlZT0 := Nat.lt_of_lt_of_le hlZT0 hzn
  replace hh_S := Nat.le_trans hh_S hzn
  replace hz0 := Nat.le_trans hz0 hzn
  clear hb hzn
  go_wp2_with fail
  refine (toLitS_x x1 _ _ _ hbig1 (by exact hv1.below hB)).mono ?_
  rintro e wy1 ⟨y1, yf1, rfl, yr1, yg1, hb⟩
  replace yr0 := yr0.below hb
  replace r_G := r_G.below hb
  replace X0 := cells_later X0 hlX0 hb
  replace ZT0 := cells_later ZT0 hlZT0 hb
  replace r_S := r_S.below hb
  replace fr_S := fr_S.below hb
  replace hB := hB.trans (hb.mono hz0)
  have hzn := hb.size
  replace hlX0 := Nat.lt_of_lt_of_le hlX0 hzn
  replace hlZT0 := Nat.lt_of_lt_of_le hlZT0 hzn
  replace hh_S := Nat.le_trans hh_S hzn
  replace hz0 := Nat.le_trans hz0 hzn
  clear hb hzn
  go_wp2_with fail
  refine (bothLins_any x0 x1 _ _ _ _ _ (lits_small hbig1) (by have := litsT_wt x1; omega) (by omega) (by exact yr0) (by exact yr1)).mono ?_
  rintro e wH ⟨vH, f_H, rfl, r_H, fr_H, hb⟩
  replace r_G := r_G.below hb
  replace X0 := cells_later X0 hlX0 hb
  replace ZT0 := cells_later ZT0 hlZT0 hb
  replace r_S := r_S.below hb
  replace fr_S := fr_S.below hb
  replace hB := hB.trans (hb.mono hz0)
  have hzn := hb.size
  replace hlX0 := Nat.lt_of_lt_of_le hlX0 hzn
  replace hlZT0 := Nat.lt_of_lt_of_le hlZT0 hzn
  replace hh_S := Nat.le_trans hh_S hzn
  replace hz0 := Nat.le_trans hz0 hzn
  clear hb hzn
  go_wp2_with fail
  refine (eqLinS_x (linsB x0 x1) _ _ _ _ _ (by exact r_H) (by exact r_S)).mono ?_
  rintro e we4 ⟨rfl, hb⟩
  replace r_G := r_G.below hb
  replace X0 := cells_later X0 hlX0 hb
  replace ZT0 := cells_later ZT0 hlZT0 hb
  replace r_S := r_S.below hb
  replace fr_S := fr_S.below hb
  replace hB := hB.trans (hb.mono hz0)
  have hzn := hb.size
  replace hlX0 := Nat.lt_of_lt_of_le hlX0 hzn
  replace hlZT0 := Nat.lt_of_lt_of_le hlZT0 hzn
  replace hh_S := Nat.le_trans hh_S hzn
  replace hz0 := Nat.le_trans hz0 hzn
  clear hb hzn
  go_wp2_with fail
  refine (heldLinS_x (linsB x0 x1) _ _ 1 _ (by omega) (by omega) r_G).mono ?_
  rintro e wh5 ⟨rfl, hb⟩
  replace r_G := r_G.below hb
  replace X0 := cells_later X0 hlX0 hb
  replace ZT0 := cells_later ZT0 hlZT0 hb
  replace r_S := r_S.below hb
  replace fr_S := fr_S.below hb
  replace hB := hB.trans (hb.mono hz0)
  have hzn := hb.size
  replace hlX0 := Nat.lt_of_lt_of_le hlX0 hzn
  replace hlZT0 := Nat.lt_of_lt_of_le hlZT0 hzn
  replace hh_S := Nat.le_trans hh_S hzn
  replace hz0 := Nat.le_trans hz0 hzn
  clear hb hzn
  have hneg : decide (((1 + cntR ((linsB x0 x1).map Ln.cd) : Int)) < 0) = false := by simp; omega
  have hne : ((1 + cntR ((linsB x0 x1).map Ln.cd) : Int) != (1 + cntR ((linsB x0 x1).map Ln.cd) : Int)) = false := by simp
  go_wp2_with fail
  clear hneg hne
  go_ret
  exact ⟨rfl, hB⟩
end Go.Proofs.YteclieenkephfaaGreat
