/- The law FnExactStackSame returns true. -/
import Derived.Deep.RegionHeld3
import Derived.Test.YtaogaddgfllkpaaSameE
import Derived.Test.YtaogaddgfllkpaaExSz
import Derived.Test.YtaogaddgfllkpaaExTo
import Derived.Test.YtaogaddgfllkpaaExEq
namespace Go.Proofs.Ytaogaddgfllkpaa
open Go Go.RowKit
set_option linter.unusedVariables false
set_option linter.unusedSimpArgs false
set_option maxHeartbeats 2000000 in
theorem exStackSame_walk (x0 : Stk) (v0 : List Value) (f0 : List Nat) (x1 : Stk) (v1 : List Value) (f1 : List Nat) (w : World) (hv0 : RdVs w x0.cd v0 f0) (hv1 : RdVs w x1.cd v1 f1) :
    Calls Try.prog 6 #[.agg v0.toArray, .agg v1.toArray] w fun e w' => e = .returned (.bool true) ∧ Below w.heap.size w w' := by
  obtain ⟨a0A0, c0A0, f0A0, a1A0, c1A0, f1A0, rfl, _, _, _⟩ := Stk.open hv0
  obtain ⟨a0A1, c0A1, f0A1, a1A1, c1A1, f1A1, rfl, _, _, _⟩ := Stk.open hv1
  go_enter Try.func6, Try.ntmps6
  go_wp2_with fail
  refine (szStack_x x0 _ _ _ _ (by omega) (by omega) (by exact hv0.below (((Below.refl _ _).alloc (Nat.le_refl _) _).alloc (by simp) _))).mono ?_
  rintro e w1 ⟨⟨r0, rfl, hr0⟩, hb⟩
  obtain ⟨X0, X1, hz, hB⟩ := box2 (w := w) (wr := w1) (cs := #[.slice a0A0 x0.sig.syms.length c0A0, .slice a1A0 x0.levels.length c1A0]) (ds := #[.slice a0A1 x1.sig.syms.length c0A1, .slice a1A1 x1.levels.length c1A1]) (T := 72) (U := 72) (below_size hb (by simp))
  have hz0 := hB.size
  have hlX0 : w.heap.size < w1.heap.size := by omega
  have hlX1 : w.heap.size + 1 < w1.heap.size := by omega
  clear hb
  rcases hr0 with ⟨hs0, rfl⟩ | ⟨hs0, rfl⟩
  rotate_left
  · go_wp2_with fail
    go_ret
    exact ⟨rfl, hB⟩
  go_wp2_with fail
  refine (szStack_x x1 _ _ _ _ (by omega) (by omega) (by exact hv1.below hB)).mono ?_
  rintro e w2 ⟨⟨r1, rfl, hr1⟩, hb⟩
  replace X0 := cells_later X0 hlX0 hb
  replace X1 := cells_later X1 hlX1 hb
  replace hB := hB.trans (hb.mono hz0)
  have hzn := hb.size
  replace hlX0 := Nat.lt_of_lt_of_le hlX0 hzn
  replace hlX1 := Nat.lt_of_lt_of_le hlX1 hzn
  replace hz0 := Nat.le_trans hz0 hzn
  clear hb hzn
  rcases hr1 with ⟨hs1, rfl⟩ | ⟨hs1, rfl⟩
  rotate_left
  · go_wp2_with fail
    go_ret
    exact ⟨rfl, hB⟩
  go_wp2_with fail
  have hbig0 : wtV x0.cd ≤ 1048576 := by omega
  have hbig1 : wtV x1.cd ≤ 1048576 := by omega
  clear hs0 hs1
  have C0_0 := X0 0
  have C0_1 := X0 1
  have C1_0 := X1 0
  have C1_1 := X1 1
  simp only [List.getElem?_toArray, List.getElem?_cons_zero, List.getElem?_cons_succ] at C0_0 C0_1 C1_0 C1_1
  go_region_held3 (fun W => W.cell? ⟨w.heap.size, 0, none⟩ = some (.slice a0A0 x0.sig.syms.length c0A0) ∧ W.cell? ⟨w.heap.size, 1, none⟩ = some (.slice a1A0 x0.levels.length c1A0) ∧ W.cell? ⟨w.heap.size + 1, 0, none⟩ = some (.slice a0A1 x1.sig.syms.length c0A1) ∧ W.cell? ⟨w.heap.size + 1, 1, none⟩ = some (.slice a1A1 x1.levels.length c1A1) ∧ Below w.heap.size w W)
    (first | exact ⟨C0_0, C0_1, C1_0, C1_1, hB.drew⟩ | (refine ⟨?_, ?_, ?_, ?_, (hB).trans ((below_undrew' hbS0).mono (hB).size)⟩ <;> (refine (cell_keep ?_ (below_undrew' hbS0)); assumption)) | (refine (cell_keep ?_ (below_undrew' hbS0)); assumption) | exact (hB).trans ((below_undrew' hbS0).mono (hB).size) | (refine ⟨?_, ?_, ?_, ?_, ((hB).trans ((below_undrew' hbS0).mono (hB).size)).trans (hbS1.mono ((hB).trans ((below_undrew' hbS0).mono (hB).size)).size)⟩ <;> (refine (cell_keep (cell_keep ?_ (below_undrew' hbS0)) hbS1); assumption)) | (refine (cell_keep (cell_keep ?_ (below_undrew' hbS0)) hbS1); assumption) | exact ((hB).trans ((below_undrew' hbS0).mono (hB).size)).trans (hbS1.mono ((hB).trans ((below_undrew' hbS0).mono (hB).size)).size) | (refine ⟨?_, ?_, ?_, ?_, (((hB).trans ((below_undrew' hbS0).mono (hB).size)).trans (hbS1.mono ((hB).trans ((below_undrew' hbS0).mono (hB).size)).size)).trans (hbS2.mono (((hB).trans ((below_undrew' hbS0).mono (hB).size)).trans (hbS1.mono ((hB).trans ((below_undrew' hbS0).mono (hB).size)).size)).size)⟩ <;> (refine (cell_keep (cell_keep (cell_keep ?_ (below_undrew' hbS0)) hbS1) hbS2); assumption)) | (refine (cell_keep (cell_keep (cell_keep ?_ (below_undrew' hbS0)) hbS1) hbS2); assumption) | exact (((hB).trans ((below_undrew' hbS0).mono (hB).size)).trans (hbS1.mono ((hB).trans ((below_undrew' hbS0).mono (hB).size)).size)).trans (hbS2.mono (((hB).trans ((below_undrew' hbS0).mono (hB).size)).trans (hbS1.mono ((hB).trans ((below_undrew' hbS0).mono (hB).size)).size)).size))
    (first | (go_at_call 40; (with_reducible refine (toStack_x x0 _ _ _ hbig0 (by exact hv0.below (hB.drew))).mono ?_); rintro e wS0 ⟨s0, sf0, rfl, sr0, sg0, hbS0⟩) | (go_at_call 40; (with_reducible refine (toStack_x x1 _ _ _ hbig1 (by exact hv1.below ((hB).trans ((below_undrew' hbS0).mono (hB).size)))).mono ?_); rintro e wS1 ⟨s1, sf1, rfl, sr1, sg1, hbS1⟩) | (go_at_call 39; (with_reducible refine (sameStkS_x x0 x1 _ _ _ _ _ (by exact sr0.below hbS1) (by exact sr1)).mono ?_); rintro e wS2 ⟨rfl, hbS2⟩))
  have hb := below_undrew' hbS0
  clear hbS0
  replace X0 := cells_later X0 hlX0 hb
  replace X1 := cells_later X1 hlX1 hb
  replace hB := hB.trans (hb.mono hz0)
  have hzn := hb.size
  replace hlX0 := Nat.lt_of_lt_of_le hlX0 hzn
  replace hlX1 := Nat.lt_of_lt_of_le hlX1 hzn
  replace hz0 := Nat.le_trans hz0 hzn
  clear hb hzn
  have hb := hbS1
  clear hbS1
  replace X0 := cells_later X0 hlX0 hb
  replace X1 := cells_later X1 hlX1 hb
  replace hB := hB.trans (hb.mono hz0)
  have hzn := hb.size
  replace hlX0 := Nat.lt_of_lt_of_le hlX0 hzn
  replace hlX1 := Nat.lt_of_lt_of_le hlX1 hzn
  replace hz0 := Nat.le_trans hz0 hzn
  clear hb hzn
  have hb := hbS2
  clear hbS2
  replace X0 := cells_later X0 hlX0 hb
  replace X1 := cells_later X1 hlX1 hb
  replace hB := hB.trans (hb.mono hz0)
  have hzn := hb.size
  replace hlX0 := Nat.lt_of_lt_of_le hlX0 hzn
  replace hlX1 := Nat.lt_of_lt_of_le hlX1 hzn
  replace hz0 := Nat.le_trans hz0 hzn
  clear hb hzn
  clear C0_0 C0_1 C1_0 C1_1
  go_wp2_with fail
  refine (toStack_x x0 _ _ _ hbig0 (by exact hv0.below hB)).mono ?_
  rintro e wt0 ⟨t0, tf0, rfl, tr0, tg0, hb⟩
  replace X0 := cells_later X0 hlX0 hb
  replace X1 := cells_later X1 hlX1 hb
  replace hB := hB.trans (hb.mono hz0)
  have hzn := hb.size
  replace hlX0 := Nat.lt_of_lt_of_le hlX0 hzn
  replace hlX1 := Nat.lt_of_lt_of_le hlX1 hzn
  replace hz0 := Nat.le_trans hz0 hzn
  clear hb hzn
  have tr0' := tr0
  obtain ⟨a0T0, c0T0, f0T0, a1T0, c1T0, f1T0, rfl, _, _, _⟩ := Stk.open tr0'
  have hZ0 := cell_new wt0 #[.slice a0T0 x0.sig.syms.length c0T0, .slice a1T0 x0.levels.length c1T0] 80
  have hb := below_alloc wt0 (.cells #[.slice a0T0 x0.sig.syms.length c0T0, .slice a1T0 x0.levels.length c1T0] 80)
  have hzz : (wt0.alloc (.cells #[.slice a0T0 x0.sig.syms.length c0T0, .slice a1T0 x0.levels.length c1T0] 80)).heap.size = wt0.heap.size + 1 := by simp
  replace X0 := cells_later X0 hlX0 hb
  replace X1 := cells_later X1 hlX1 hb
  replace tr0 := tr0.below hb
  replace hB := hB.trans (hb.mono hz0)
  have hzn := hb.size
  replace hlX0 := Nat.lt_of_lt_of_le hlX0 hzn
  replace hlX1 := Nat.lt_of_lt_of_le hlX1 hzn
  replace hz0 := Nat.le_trans hz0 hzn
  clear hb hzn
  have hlhZ0 : wt0.heap.size < (wt0.alloc (.cells #[.slice a0T0 x0.sig.syms.length c0T0, .slice a1T0 x0.levels.length c1T0] 80)).heap.size := by simp
  go_wp2_with fail
  refine (toStack_x x1 _ _ _ hbig1 (by exact hv1.below hB)).mono ?_
  rintro e wt1 ⟨t1, tf1, rfl, tr1, tg1, hb⟩
  replace X0 := cells_later X0 hlX0 hb
  replace X1 := cells_later X1 hlX1 hb
  replace hZ0 := cells_later hZ0 hlhZ0 hb
  replace tr0 := tr0.below hb
  replace hB := hB.trans (hb.mono hz0)
  have hzn := hb.size
  replace hlX0 := Nat.lt_of_lt_of_le hlX0 hzn
  replace hlX1 := Nat.lt_of_lt_of_le hlX1 hzn
  replace hlhZ0 := Nat.lt_of_lt_of_le hlhZ0 hzn
  replace hz0 := Nat.le_trans hz0 hzn
  clear hb hzn
  have tr1' := tr1
  obtain ⟨a0T1, c0T1, f0T1, a1T1, c1T1, f1T1, rfl, _, _, _⟩ := Stk.open tr1'
  have hZ1 := cell_new wt1 #[.slice a0T1 x1.sig.syms.length c0T1, .slice a1T1 x1.levels.length c1T1] 80
  have hb := below_alloc wt1 (.cells #[.slice a0T1 x1.sig.syms.length c0T1, .slice a1T1 x1.levels.length c1T1] 80)
  have hzz : (wt1.alloc (.cells #[.slice a0T1 x1.sig.syms.length c0T1, .slice a1T1 x1.levels.length c1T1] 80)).heap.size = wt1.heap.size + 1 := by simp
  replace X0 := cells_later X0 hlX0 hb
  replace X1 := cells_later X1 hlX1 hb
  replace hZ0 := cells_later hZ0 hlhZ0 hb
  replace tr0 := tr0.below hb
  replace tr1 := tr1.below hb
  replace hB := hB.trans (hb.mono hz0)
  have hzn := hb.size
  replace hlX0 := Nat.lt_of_lt_of_le hlX0 hzn
  replace hlX1 := Nat.lt_of_lt_of_le hlX1 hzn
  replace hlhZ0 := Nat.lt_of_lt_of_le hlhZ0 hzn
  replace hz0 := Nat.le_trans hz0 hzn
  clear hb hzn
  have hlhZ1 : wt1.heap.size < (wt1.alloc (.cells #[.slice a0T1 x1.sig.syms.length c0T1, .slice a1T1 x1.levels.length c1T1] 80)).heap.size := by simp
  go_wp2_with fail
  refine (sameStk_x x0 x1 _ _ _ _ _ (by exact tr0) (by exact tr1)).mono ?_
  rintro e wg ⟨rfl, hb⟩
  replace X0 := cells_later X0 hlX0 hb
  replace X1 := cells_later X1 hlX1 hb
  replace hZ0 := cells_later hZ0 hlhZ0 hb
  replace hZ1 := cells_later hZ1 hlhZ1 hb
  replace tr0 := tr0.below hb
  replace tr1 := tr1.below hb
  replace hB := hB.trans (hb.mono hz0)
  have hzn := hb.size
  replace hlX0 := Nat.lt_of_lt_of_le hlX0 hzn
  replace hlX1 := Nat.lt_of_lt_of_le hlX1 hzn
  replace hlhZ0 := Nat.lt_of_lt_of_le hlhZ0 hzn
  replace hlhZ1 := Nat.lt_of_lt_of_le hlhZ1 hzn
  replace hz0 := Nat.le_trans hz0 hzn
  clear hb hzn
  cases hres : eqV x0.cd x1.cd
  all_goals
    go_wp2_with fail
    have C0_0 := X0 0
    have C0_1 := X0 1
    have C1_0 := X1 0
    have C1_1 := X1 1
    have C2_0 := hZ0 0
    have C2_1 := hZ0 1
    have C3_0 := hZ1 0
    have C3_1 := hZ1 1
    simp only [List.getElem?_toArray, List.getElem?_cons_zero, List.getElem?_cons_succ] at C0_0 C0_1 C1_0 C1_1 C2_0 C2_1 C3_0 C3_1
    go_region_held3 (fun W => W.cell? ⟨w.heap.size, 0, none⟩ = some (.slice a0A0 x0.sig.syms.length c0A0) ∧ W.cell? ⟨w.heap.size, 1, none⟩ = some (.slice a1A0 x0.levels.length c1A0) ∧ W.cell? ⟨w.heap.size + 1, 0, none⟩ = some (.slice a0A1 x1.sig.syms.length c0A1) ∧ W.cell? ⟨w.heap.size + 1, 1, none⟩ = some (.slice a1A1 x1.levels.length c1A1) ∧ W.cell? ⟨wt0.heap.size, 0, none⟩ = some (.slice a0T0 x0.sig.syms.length c0T0) ∧ W.cell? ⟨wt0.heap.size, 1, none⟩ = some (.slice a1T0 x0.levels.length c1T0) ∧ W.cell? ⟨wt1.heap.size, 0, none⟩ = some (.slice a0T1 x1.sig.syms.length c0T1) ∧ W.cell? ⟨wt1.heap.size, 1, none⟩ = some (.slice a1T1 x1.levels.length c1T1) ∧ Below w.heap.size w W)
      (first | exact ⟨C0_0, C0_1, C1_0, C1_1, C2_0, C2_1, C3_0, C3_1, hB.drew⟩ | (refine ⟨?_, ?_, ?_, ?_, ?_, ?_, ?_, ?_, (hB).trans ((below_undrew' hbE00).mono (hB).size)⟩ <;> (refine (cell_keep ?_ (below_undrew' hbE00)); assumption)) | (refine (cell_keep ?_ (below_undrew' hbE00)); assumption) | exact (hB).trans ((below_undrew' hbE00).mono (hB).size) | (refine ⟨?_, ?_, ?_, ?_, ?_, ?_, ?_, ?_, ((hB).trans ((below_undrew' hbE00).mono (hB).size)).trans (hbE01.mono ((hB).trans ((below_undrew' hbE00).mono (hB).size)).size)⟩ <;> (refine (cell_keep (cell_keep ?_ (below_undrew' hbE00)) hbE01); assumption)) | (refine (cell_keep (cell_keep ?_ (below_undrew' hbE00)) hbE01); assumption) | exact ((hB).trans ((below_undrew' hbE00).mono (hB).size)).trans (hbE01.mono ((hB).trans ((below_undrew' hbE00).mono (hB).size)).size))
      (first | (go_at_call 40; (with_reducible refine (toStack_x x0 _ _ _ hbig0 (by exact hv0.below (hB.drew))).mono ?_); rintro e wE00 ⟨u0, uf0, rfl, ur0, ug0, hbE00⟩) | (go_at_call 42; (with_reducible refine (eqStack_x x0 _ _ _ _ _ (by exact tr0.below ((below_undrew' hbE00))) (by exact ur0)).mono ?_); rintro e wE01 ⟨rfl, hbE01⟩))
    have hb := below_undrew' hbE00
    clear hbE00
    replace X0 := cells_later X0 hlX0 hb
    replace X1 := cells_later X1 hlX1 hb
    replace hZ0 := cells_later hZ0 hlhZ0 hb
    replace hZ1 := cells_later hZ1 hlhZ1 hb
    replace tr0 := tr0.below hb
    replace tr1 := tr1.below hb
    replace hB := hB.trans (hb.mono hz0)
    have hzn := hb.size
    replace hlX0 := Nat.lt_of_lt_of_le hlX0 hzn
    replace hlX1 := Nat.lt_of_lt_of_le hlX1 hzn
    replace hlhZ0 := Nat.lt_of_lt_of_le hlhZ0 hzn
    replace hlhZ1 := Nat.lt_of_lt_of_le hlhZ1 hzn
    replace hz0 := Nat.le_trans hz0 hzn
    clear hb hzn
    have hb := hbE01
    clear hbE01
    replace X0 := cells_later X0 hlX0 hb
    replace X1 := cells_later X1 hlX1 hb
    replace hZ0 := cells_later hZ0 hlhZ0 hb
    replace hZ1 := cells_later hZ1 hlhZ1 hb
    replace tr0 := tr0.below hb
    replace tr1 := tr1.below hb
    replace hB := hB.trans (hb.mono hz0)
    have hzn := hb.size
    replace hlX0 := Nat.lt_of_lt_of_le hlX0 hzn
    replace hlX1 := Nat.lt_of_lt_of_le hlX1 hzn
    replace hlhZ0 := Nat.lt_of_lt_of_le hlhZ0 hzn
    replace hlhZ1 := Nat.lt_of_lt_of_le hlhZ1 hzn
    replace hz0 := Nat.le_trans hz0 hzn
    clear hb hzn
    clear C0_0 C0_1 C1_0 C1_1 C2_0 C2_1 C3_0 C3_1
    go_wp2_with fail
    have C0_0 := X0 0
    have C0_1 := X0 1
    have C1_0 := X1 0
    have C1_1 := X1 1
    have C2_0 := hZ0 0
    have C2_1 := hZ0 1
    have C3_0 := hZ1 0
    have C3_1 := hZ1 1
    simp only [List.getElem?_toArray, List.getElem?_cons_zero, List.getElem?_cons_succ] at C0_0 C0_1 C1_0 C1_1 C2_0 C2_1 C3_0 C3_1
    go_region_held3 (fun W => W.cell? ⟨w.heap.size, 0, none⟩ = some (.slice a0A0 x0.sig.syms.length c0A0) ∧ W.cell? ⟨w.heap.size, 1, none⟩ = some (.slice a1A0 x0.levels.length c1A0) ∧ W.cell? ⟨w.heap.size + 1, 0, none⟩ = some (.slice a0A1 x1.sig.syms.length c0A1) ∧ W.cell? ⟨w.heap.size + 1, 1, none⟩ = some (.slice a1A1 x1.levels.length c1A1) ∧ W.cell? ⟨wt0.heap.size, 0, none⟩ = some (.slice a0T0 x0.sig.syms.length c0T0) ∧ W.cell? ⟨wt0.heap.size, 1, none⟩ = some (.slice a1T0 x0.levels.length c1T0) ∧ W.cell? ⟨wt1.heap.size, 0, none⟩ = some (.slice a0T1 x1.sig.syms.length c0T1) ∧ W.cell? ⟨wt1.heap.size, 1, none⟩ = some (.slice a1T1 x1.levels.length c1T1) ∧ Below w.heap.size w W)
      (first | exact ⟨C0_0, C0_1, C1_0, C1_1, C2_0, C2_1, C3_0, C3_1, hB.drew⟩ | (refine ⟨?_, ?_, ?_, ?_, ?_, ?_, ?_, ?_, (hB).trans ((below_undrew' hbE10).mono (hB).size)⟩ <;> (refine (cell_keep ?_ (below_undrew' hbE10)); assumption)) | (refine (cell_keep ?_ (below_undrew' hbE10)); assumption) | exact (hB).trans ((below_undrew' hbE10).mono (hB).size) | (refine ⟨?_, ?_, ?_, ?_, ?_, ?_, ?_, ?_, ((hB).trans ((below_undrew' hbE10).mono (hB).size)).trans (hbE11.mono ((hB).trans ((below_undrew' hbE10).mono (hB).size)).size)⟩ <;> (refine (cell_keep (cell_keep ?_ (below_undrew' hbE10)) hbE11); assumption)) | (refine (cell_keep (cell_keep ?_ (below_undrew' hbE10)) hbE11); assumption) | exact ((hB).trans ((below_undrew' hbE10).mono (hB).size)).trans (hbE11.mono ((hB).trans ((below_undrew' hbE10).mono (hB).size)).size))
      (first | (go_at_call 40; (with_reducible refine (toStack_x x1 _ _ _ hbig1 (by exact hv1.below (hB.drew))).mono ?_); rintro e wE10 ⟨u1, uf1, rfl, ur1, ug1, hbE10⟩) | (go_at_call 42; (with_reducible refine (eqStack_x x1 _ _ _ _ _ (by exact tr1.below ((below_undrew' hbE10))) (by exact ur1)).mono ?_); rintro e wE11 ⟨rfl, hbE11⟩))
    have hb := below_undrew' hbE10
    clear hbE10
    replace X0 := cells_later X0 hlX0 hb
    replace X1 := cells_later X1 hlX1 hb
    replace hZ0 := cells_later hZ0 hlhZ0 hb
    replace hZ1 := cells_later hZ1 hlhZ1 hb
    replace tr0 := tr0.below hb
    replace tr1 := tr1.below hb
    replace hB := hB.trans (hb.mono hz0)
    have hzn := hb.size
    replace hlX0 := Nat.lt_of_lt_of_le hlX0 hzn
    replace hlX1 := Nat.lt_of_lt_of_le hlX1 hzn
    replace hlhZ0 := Nat.lt_of_lt_of_le hlhZ0 hzn
    replace hlhZ1 := Nat.lt_of_lt_of_le hlhZ1 hzn
    replace hz0 := Nat.le_trans hz0 hzn
    clear hb hzn
    have hb := hbE11
    clear hbE11
    replace X0 := cells_later X0 hlX0 hb
    replace X1 := cells_later X1 hlX1 hb
    replace hZ0 := cells_later hZ0 hlhZ0 hb
    replace hZ1 := cells_later hZ1 hlhZ1 hb
    replace tr0 := tr0.below hb
    replace tr1 := tr1.below hb
    replace hB := hB.trans (hb.mono hz0)
    have hzn := hb.size
    replace hlX0 := Nat.lt_of_lt_of_le hlX0 hzn
    replace hlX1 := Nat.lt_of_lt_of_le hlX1 hzn
    replace hlhZ0 := Nat.lt_of_lt_of_le hlhZ0 hzn
    replace hlhZ1 := Nat.lt_of_lt_of_le hlhZ1 hzn
    replace hz0 := Nat.le_trans hz0 hzn
    clear hb hzn
    clear C0_0 C0_1 C1_0 C1_1 C2_0 C2_1 C3_0 C3_1
    go_wp2_with fail
    go_ret
    exact ⟨rfl, hB⟩
end Go.Proofs.Ytaogaddgfllkpaa
