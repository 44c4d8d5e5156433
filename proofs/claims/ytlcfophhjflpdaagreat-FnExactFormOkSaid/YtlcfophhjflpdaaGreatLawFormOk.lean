/- The law FnExactFormOk returns true. -/
import Derived.Deep.RegionHeld3
import Derived.Test.YtlcfophhjflpdaaGreatFormO
import Derived.Test.YtlcfophhjflpdaaGreatExSz
import Derived.Test.YtlcfophhjflpdaaGreatExTo
import Derived.Test.YtlcfophhjflpdaaGreatExEq
namespace Go.Proofs.YtlcfophhjflpdaaGreat
open Go Go.RowKit
set_option linter.unusedVariables false
set_option linter.unusedSimpArgs false
set_option maxHeartbeats 2000000 in
theorem exFormOk_walk (x0 : Sg) (v0 : List Value) (f0 : List Nat) (x1 : Fm) (v1 : List Value) (f1 : List Nat) (w : World) (hv0 : RdVs w x0.cd v0 f0) (hv1 : RdVs w x1.cd v1 f1) :
    Calls Tryz.prog 3 #[.agg v0.toArray, .agg v1.toArray] w fun e w' => e = .returned (.bool true) ∧ Below w.heap.size w w' := by
  obtain ⟨a0A0, c0A0, f0A0, rfl, _, _⟩ := Sg.open hv0
  obtain ⟨a3A1, c3A1, f3A1, a5A1, c5A1, f5A1, a6A1, c6A1, f6A1, a7A1, c7A1, f7A1, a11A1, c11A1, f11A1, rfl, _, _, _, _, _, _, _, _, _, _, _⟩ := Fm.open hv1
  go_enter Tryz.func3, Tryz.ntmps3
  go_wp2_with fail
  refine (szSig_x x0 _ _ _ _ (by omega) (by omega) (by exact hv0.below (((Below.refl _ _).alloc (Nat.le_refl _) _).alloc (by simp) _))).mono ?_
  rintro e w1 ⟨⟨r0, rfl, hr0⟩, hb⟩
  obtain ⟨X0, X1, hz, hB⟩ := box2 (w := w) (wr := w1) (cs := #[.slice a0A0 x0.syms.length c0A0]) (ds := #[.int .i64 x1.kind, .int .i64 x1.lit.atom.kind, .string x1.lit.atom.a.name, .slice a3A1 x1.lit.atom.a.kids.length c3A1, .string x1.lit.atom.b.name, .slice a5A1 x1.lit.atom.b.kids.length c5A1, .slice a6A1 x1.lit.atom.nums.length c6A1, .slice a7A1 x1.lit.atom.times.length c7A1, .int .i64 x1.lit.atom.bound, .bool x1.lit.atom.strict, .bool x1.lit.no, .slice a11A1 x1.kids.length c11A1]) (T := 24) (U := 35) (below_size hb (by simp))
  have hz0 := hB.size
  have hlX0 : w.heap.size < w1.heap.size := by omega
  have hlX1 : w.heap.size + 1 < w1.heap.size := by omega
  clear hb
  rcases hr0 with ⟨hs0, rfl⟩ | ⟨hs0, rfl⟩
  rotate_left
  · go_wp2_with fail
    go_ret
    exact ⟨rfl, hB⟩
  go_wp2_with fail
  refine (szForm_x x1 _ _ _ _ (by omega) (by omega) (by exact hv1.below hB)).mono ?_
  rintro e w2 ⟨⟨r1, rfl, hr1⟩, hb⟩
  replace X0 := cells_later X0 hlX0 hb
  replace X1 := cells_later X1 hlX1 hb
  replace hB := hB.trans (hb.mono hz0)
  have hzn := hb.size
  replace hlX0 := Nat.lt_of_lt_of_le hlX0 hzn
  replace hlX1 := Nat.lt_of_lt_of_le hlX1 hzn
  replace hz0 := Nat.le_trans hz0 hzn
  clear hb hzn
  rcases hr1 with ⟨hs1, rfl⟩ | ⟨hs1, rfl⟩
  rotate_left
  · go_wp2_with fail
    go_ret
    exact ⟨rfl, hB⟩
  go_wp2_with fail
  have hbig0 : wtV x0.cd ≤ 1048576 := by omega
  have hbig1 : wtV x1.cd ≤ 1048576 := by omega
  clear hs0 hs1
  have C0_0 := X0 0
  have C1_0 := X1 0
  have C1_1 := X1 1
  have C1_2 := X1 2
  have C1_3 := X1 3
  have C1_4 := X1 4
  have C1_5 := X1 5
  have C1_6 := X1 6
  have C1_7 := X1 7
  have C1_8 := X1 8
  have C1_9 := X1 9
  have C1_10 := X1 10
  have C1_11 := X1 11
  simp only [List.getElem?_toArray, List.getElem?_cons_zero, List.getElem?_cons_succ] at C0_0 C1_0 C1_1 C1_2 C1_3 C1_4 C1_5 C1_6 C1_7 C1_8 C1_9 C1_10 C1_11
  go_region_held3 (fun W => W.cell? ⟨w.heap.size, 0, none⟩ = some (.slice a0A0 x0.syms.length c0A0) ∧ W.cell? ⟨w.heap.size + 1, 0, none⟩ = some (.int .i64 x1.kind) ∧ W.cell? ⟨w.heap.size + 1, 1, none⟩ = some (.int .i64 x1.lit.atom.kind) ∧ W.cell? ⟨w.heap.size + 1, 2, none⟩ = some (.string x1.lit.atom.a.name) ∧ W.cell? ⟨w.heap.size + 1, 3, none⟩ = some (.slice a3A1 x1.lit.atom.a.kids.length c3A1) ∧ W.cell? ⟨w.heap.size + 1, 4, none⟩ = some (.string x1.lit.atom.b.name) ∧ W.cell? ⟨w.heap.size + 1, 5, none⟩ = some (.slice a5A1 x1.lit.atom.b.kids.length c5A1) ∧ W.cell? ⟨w.heap.size + 1, 6, none⟩ = some (.slice a6A1 x1.lit.atom.nums.length c6A1) ∧ W.cell? ⟨w.heap.size + 1, 7, none⟩ = some (.slice a7A1 x1.lit.atom.times.length c7A1) ∧ W.cell? ⟨w.heap.size + 1, 8, none⟩ = some (.int .i64 x1.lit.atom.bound) ∧ W.cell? ⟨w.heap.size + 1, 9, none⟩ = some (.bool x1.lit.atom.strict) ∧ W.cell? ⟨w.heap.size + 1, 10, none⟩ = some (.bool x1.lit.no) ∧ W.cell? ⟨w.heap.size + 1, 11, none⟩ = some (.slice a11A1 x1.kids.length c11A1) ∧ Below w.heap.size w W)
    (first | exact ⟨C0_0, C1_0, C1_1, C1_2, C1_3, C1_4, C1_5, C1_6, C1_7, C1_8, C1_9, C1_10, C1_11, hB.drew⟩ | (refine ⟨?_, ?_, ?_, ?_, ?_, ?_, ?_, ?_, ?_, ?_, ?_, ?_, ?_, (hB).trans ((below_undrew' hbS0).mono (hB).size)⟩ <;> (refine (cell_keep ?_ (below_undrew' hbS0)); assumption)) | (refine (cell_keep ?_ (below_undrew' hbS0)); assumption) | exact (hB).trans ((below_undrew' hbS0).mono (hB).size) | (refine ⟨?_, ?_, ?_, ?_, ?_, ?_, ?_, ?_, ?_, ?_, ?_, ?_, ?_, ((hB).trans ((below_undrew' hbS0).mono (hB).size)).trans (hbS1.mono ((hB).trans ((below_undrew' hbS0).mono (hB).size)).size)⟩ <;> (refine (cell_keep (cell_keep ?_ (below_undrew' hbS0)) hbS1); assumption)) | (refine (cell_keep (cell_keep ?_ (below_undrew' hbS0)) hbS1); assumption) | exact ((hB).trans ((below_undrew' hbS0).mono (hB).size)).trans (hbS1.mono ((hB).trans ((below_undrew' hbS0).mono (hB).size)).size) | (refine ⟨?_, ?_, ?_, ?_, ?_, ?_, ?_, ?_, ?_, ?_, ?_, ?_, ?_, (((hB).trans ((below_undrew' hbS0).mono (hB).size)).trans (hbS1.mono ((hB).trans ((below_undrew' hbS0).mono (hB).size)).size)).trans (hbS2.mono (((hB).trans ((below_undrew' hbS0).mono (hB).size)).trans (hbS1.mono ((hB).trans ((below_undrew' hbS0).mono (hB).size)).size)).size)⟩ <;> (refine (cell_keep (cell_keep (cell_keep ?_ (below_undrew' hbS0)) hbS1) hbS2); assumption)) | (refine (cell_keep (cell_keep (cell_keep ?_ (below_undrew' hbS0)) hbS1) hbS2); assumption) | exact (((hB).trans ((below_undrew' hbS0).mono (hB).size)).trans (hbS1.mono ((hB).trans ((below_undrew' hbS0).mono (hB).size)).size)).trans (hbS2.mono (((hB).trans ((below_undrew' hbS0).mono (hB).size)).trans (hbS1.mono ((hB).trans ((below_undrew' hbS0).mono (hB).size)).size)).size))
    (first | (go_at_call 13; (with_reducible refine (toSig_x x0 _ _ _ hbig0 (by exact hv0.below (hB.drew))).mono ?_); rintro e wS0 ⟨s0, sf0, rfl, sr0, sg0, hbS0⟩) | (go_at_call 14; (with_reducible refine (toForm_x x1 _ _ _ hbig1 (by exact hv1.below ((hB).trans ((below_undrew' hbS0).mono (hB).size)))).mono ?_); rintro e wS1 ⟨s1, sf1, rfl, sr1, sg1, hbS1⟩) | (go_at_call 12; (with_reducible refine (formOkS_any x0 x1 _ _ _ _ _ hbig1 (by exact sr0.below hbS1) (by exact sr1)).mono ?_); rintro e wS2 ⟨rfl, hbS2⟩))
  have hb := below_undrew' hbS0
  clear hbS0
  replace X0 := cells_later X0 hlX0 hb
  replace X1 := cells_later X1 hlX1 hb
  replace hB := hB.trans (hb.mono hz0)
  have hzn := hb.size
  replace hlX0 := Nat.lt_of_lt_of_le hlX0 hzn
  replace hlX1 := Nat.lt_of_lt_of_le hlX1 hzn
  replace hz0 := Nat.le_trans hz0 hzn
  clear hb hzn
  have hb := hbS1
  clear hbS1
  replace X0 := cells_later X0 hlX0 hb
  replace X1 := cells_later X1 hlX1 hb
  replace hB := hB.trans (hb.mono hz0)
  have hzn := hb.size
  replace hlX0 := Nat.lt_of_lt_of_le hlX0 hzn
  replace hlX1 := Nat.lt_of_lt_of_le hlX1 hzn
  replace hz0 := Nat.le_trans hz0 hzn
  clear hb hzn
  have hb := hbS2
  clear hbS2
  replace X0 := cells_later X0 hlX0 hb
  replace X1 := cells_later X1 hlX1 hb
  replace hB := hB.trans (hb.mono hz0)
  have hzn := hb.size
  replace hlX0 := Nat.lt_of_lt_of_le hlX0 hzn
  replace hlX1 := Nat.lt_of_lt_of_le hlX1 hzn
  replace hz0 := Nat.le_trans hz0 hzn
  clear hb hzn
  clear C0_0 C1_0 C1_1 C1_2 C1_3 C1_4 C1_5 C1_6 C1_7 C1_8 C1_9 C1_10 C1_11
  go_wp2_with fail
  refine (toSig_x x0 _ _ _ hbig0 (by exact hv0.below hB)).mono ?_
  rintro e wt0 ⟨t0, tf0, rfl, tr0, tg0, hb⟩
  replace X0 := cells_later X0 hlX0 hb
  replace X1 := cells_later X1 hlX1 hb
  replace hB := hB.trans (hb.mono hz0)
  have hzn := hb.size
  replace hlX0 := Nat.lt_of_lt_of_le hlX0 hzn
  replace hlX1 := Nat.lt_of_lt_of_le hlX1 hzn
  replace hz0 := Nat.le_trans hz0 hzn
  clear hb hzn
  have tr0' := tr0
  obtain ⟨a0T0, c0T0, f0T0, rfl, _, _⟩ := Sg.open tr0'
  have hZ0 := cell_new wt0 #[.slice a0T0 x0.syms.length c0T0] 41
  have hb := below_alloc wt0 (.cells #[.slice a0T0 x0.syms.length c0T0] 41)
  have hzz : (wt0.alloc (.cells #[.slice a0T0 x0.syms.length c0T0] 41)).heap.size = wt0.heap.size + 1 := by simp
  replace X0 := cells_later X0 hlX0 hb
  replace X1 := cells_later X1 hlX1 hb
  replace tr0 := tr0.below hb
  replace hB := hB.trans (hb.mono hz0)
  have hzn := hb.size
  replace hlX0 := Nat.lt_of_lt_of_le hlX0 hzn
  replace hlX1 := Nat.lt_of_lt_of_le hlX1 hzn
  replace hz0 := Nat.le_trans hz0 hzn
  clear hb hzn
  have hlhZ0 : wt0.heap.size < (wt0.alloc (.cells #[.slice a0T0 x0.syms.length c0T0] 41)).heap.size := by simp
  go_wp2_with fail
  refine (toForm_x x1 _ _ _ hbig1 (by exact hv1.below hB)).mono ?_
  rintro e wt1 ⟨t1, tf1, rfl, tr1, tg1, hb⟩
  replace X0 := cells_later X0 hlX0 hb
  replace X1 := cells_later X1 hlX1 hb
  replace hZ0 := cells_later hZ0 hlhZ0 hb
  replace tr0 := tr0.below hb
  replace hB := hB.trans (hb.mono hz0)
  have hzn := hb.size
  replace hlX0 := Nat.lt_of_lt_of_le hlX0 hzn
  replace hlX1 := Nat.lt_of_lt_of_le hlX1 hzn
  replace hlhZ0 := Nat.lt_of_lt_of_le hlhZ0 hzn
  replace hz0 := Nat.le_trans hz0 hzn
  clear hb hzn
  have tr1' := tr1
  obtain ⟨a3T1, c3T1, f3T1, a5T1, c5T1, f5T1, a6T1, c6T1, f6T1, a7T1, c7T1, f7T1, a11T1, c11T1, f11T1, rfl, _, _, _, _, _, _, _, _, _, _, _⟩ := Fm.open tr1'
  have hZ1 := cell_new wt1 #[.int .i64 x1.kind, .int .i64 x1.lit.atom.kind, .string x1.lit.atom.a.name, .slice a3T1 x1.lit.atom.a.kids.length c3T1, .string x1.lit.atom.b.name, .slice a5T1 x1.lit.atom.b.kids.length c5T1, .slice a6T1 x1.lit.atom.nums.length c6T1, .slice a7T1 x1.lit.atom.times.length c7T1, .int .i64 x1.lit.atom.bound, .bool x1.lit.atom.strict, .bool x1.lit.no, .slice a11T1 x1.kids.length c11T1] 52
  have hb := below_alloc wt1 (.cells #[.int .i64 x1.kind, .int .i64 x1.lit.atom.kind, .string x1.lit.atom.a.name, .slice a3T1 x1.lit.atom.a.kids.length c3T1, .string x1.lit.atom.b.name, .slice a5T1 x1.lit.atom.b.kids.length c5T1, .slice a6T1 x1.lit.atom.nums.length c6T1, .slice a7T1 x1.lit.atom.times.length c7T1, .int .i64 x1.lit.atom.bound, .bool x1.lit.atom.strict, .bool x1.lit.no, .slice a11T1 x1.kids.length c11T1] 52)
  have hzz : (wt1.alloc (.cells #[.int .i64 x1.kind, .int .i64 x1.lit.atom.kind, .string x1.lit.atom.a.name, .slice a3T1 x1.lit.atom.a.kids.length c3T1, .string x1.lit.atom.b.name, .slice a5T1 x1.lit.atom.b.kids.length c5T1, .slice a6T1 x1.lit.atom.nums.length c6T1, .slice a7T1 x1.lit.atom.times.length c7T1, .int .i64 x1.lit.atom.bound, .bool x1.lit.atom.strict, .bool x1.lit.no, .slice a11T1 x1.kids.length c11T1] 52)).heap.size = wt1.heap.size + 1 := by simp
  replace X0 := cells_later X0 hlX0 hb
  replace X1 := cells_later X1 hlX1 hb
  replace hZ0 := cells_later hZ0 hlhZ0 hb
  replace tr0 := tr0.below hb
  replace tr1 := tr1.below hb
  replace hB := hB.trans (hb.mono hz0)
  have hzn := hb.size
  replace hlX0 := Nat.lt_of_lt_of_le hlX0 hzn
  replace hlX1 := Nat.lt_of_lt_of_le hlX1 hzn
  replace hlhZ0 := Nat.lt_of_lt_of_le hlhZ0 hzn
  replace hz0 := Nat.le_trans hz0 hzn
  clear hb hzn
  have hlhZ1 : wt1.heap.size < (wt1.alloc (.cells #[.int .i64 x1.kind, .int .i64 x1.lit.atom.kind, .string x1.lit.atom.a.name, .slice a3T1 x1.lit.atom.a.kids.length c3T1, .string x1.lit.atom.b.name, .slice a5T1 x1.lit.atom.b.kids.length c5T1, .slice a6T1 x1.lit.atom.nums.length c6T1, .slice a7T1 x1.lit.atom.times.length c7T1, .int .i64 x1.lit.atom.bound, .bool x1.lit.atom.strict, .bool x1.lit.no, .slice a11T1 x1.kids.length c11T1] 52)).heap.size := by simp
  go_wp2_with fail
  refine (formOk_any x0 x1 _ _ _ _ _ hbig1 (by exact tr0) (by exact tr1)).mono ?_
  rintro e wg ⟨rfl, hb⟩
  replace X0 := cells_later X0 hlX0 hb
  replace X1 := cells_later X1 hlX1 hb
  replace hZ0 := cells_later hZ0 hlhZ0 hb
  replace hZ1 := cells_later hZ1 hlhZ1 hb
  replace tr0 := tr0.below hb
  replace tr1 := tr1.below hb
  replace hB := hB.trans (hb.mono hz0)
  have hzn := hb.size
  replace hlX0 := Nat.lt_of_lt_of_le hlX0 hzn
  replace hlX1 := Nat.lt_of_lt_of_le hlX1 hzn
  replace hlhZ0 := Nat.lt_of_lt_of_le hlhZ0 hzn
  replace hlhZ1 := Nat.lt_of_lt_of_le hlhZ1 hzn
  replace hz0 := Nat.le_trans hz0 hzn
  clear hb hzn
  cases hres : x1.okIn x0
  all_goals
    go_wp2_with fail
    have C0_0 := X0 0
    have C1_0 := X1 0
    have C1_1 := X1 1
    have C1_2 := X1 2
    have C1_3 := X1 3
    have C1_4 := X1 4
    have C1_5 := X1 5
    have C1_6 := X1 6
    have C1_7 := X1 7
    have C1_8 := X1 8
    have C1_9 := X1 9
    have C1_10 := X1 10
    have C1_11 := X1 11
    have C2_0 := hZ0 0
    have C3_0 := hZ1 0
    have C3_1 := hZ1 1
    have C3_2 := hZ1 2
    have C3_3 := hZ1 3
    have C3_4 := hZ1 4
    have C3_5 := hZ1 5
    have C3_6 := hZ1 6
    have C3_7 := hZ1 7
    have C3_8 := hZ1 8
    have C3_9 := hZ1 9
    have C3_10 := hZ1 10
    have C3_11 := hZ1 11
    simp only [List.getElem?_toArray, List.getElem?_cons_zero, List.getElem?_cons_succ] at C0_0 C1_0 C1_1 C1_2 C1_3 C1_4 C1_5 C1_6 C1_7 C1_8 C1_9 C1_10 C1_11 C2_0 C3_0 C3_1 C3_2 C3_3 C3_4 C3_5 C3_6 C3_7 C3_8 C3_9 C3_10 C3_11
    go_region_held3 (fun W => W.cell? ⟨w.heap.size, 0, none⟩ = some (.slice a0A0 x0.syms.length c0A0) ∧ W.cell? ⟨w.heap.size + 1, 0, none⟩ = some (.int .i64 x1.kind) ∧ W.cell? ⟨w.heap.size + 1, 1, none⟩ = some (.int .i64 x1.lit.atom.kind) ∧ W.cell? ⟨w.heap.size + 1, 2, none⟩ = some (.string x1.lit.atom.a.name) ∧ W.cell? ⟨w.heap.size + 1, 3, none⟩ = some (.slice a3A1 x1.lit.atom.a.kids.length c3A1) ∧ W.cell? ⟨w.heap.size + 1, 4, none⟩ = some (.string x1.lit.atom.b.name) ∧ W.cell? ⟨w.heap.size + 1, 5, none⟩ = some (.slice a5A1 x1.lit.atom.b.kids.length c5A1) ∧ W.cell? ⟨w.heap.size + 1, 6, none⟩ = some (.slice a6A1 x1.lit.atom.nums.length c6A1) ∧ W.cell? ⟨w.heap.size + 1, 7, none⟩ = some (.slice a7A1 x1.lit.atom.times.length c7A1) ∧ W.cell? ⟨w.heap.size + 1, 8, none⟩ = some (.int .i64 x1.lit.atom.bound) ∧ W.cell? ⟨w.heap.size + 1, 9, none⟩ = some (.bool x1.lit.atom.strict) ∧ W.cell? ⟨w.heap.size + 1, 10, none⟩ = some (.bool x1.lit.no) ∧ W.cell? ⟨w.heap.size + 1, 11, none⟩ = some (.slice a11A1 x1.kids.length c11A1) ∧ W.cell? ⟨wt0.heap.size, 0, none⟩ = some (.slice a0T0 x0.syms.length c0T0) ∧ W.cell? ⟨wt1.heap.size, 0, none⟩ = some (.int .i64 x1.kind) ∧ W.cell? ⟨wt1.heap.size, 1, none⟩ = some (.int .i64 x1.lit.atom.kind) ∧ W.cell? ⟨wt1.heap.size, 2, none⟩ = some (.string x1.lit.atom.a.name) ∧ W.cell? ⟨wt1.heap.size, 3, none⟩ = some (.slice a3T1 x1.lit.atom.a.kids.length c3T1) ∧ W.cell? ⟨wt1.heap.size, 4, none⟩ = some (.string x1.lit.atom.b.name) ∧ W.cell? ⟨wt1.heap.size, 5, none⟩ = some (.slice a5T1 x1.lit.atom.b.kids.length c5T1) ∧ W.cell? ⟨wt1.heap.size, 6, none⟩ = some (.slice a6T1 x1.lit.atom.nums.length c6T1) ∧ W.cell? ⟨wt1.heap.size, 7, none⟩ = some (.slice a7T1 x1.lit.atom.times.length c7T1) ∧ W.cell? ⟨wt1.heap.size, 8, none⟩ = some (.int .i64 x1.lit.atom.bound) ∧ W.cell? ⟨wt1.heap.size, 9, none⟩ = some (.bool x1.lit.atom.strict) ∧ W.cell? ⟨wt1.heap.size, 10, none⟩ = some (.bool x1.lit.no) ∧ W.cell? ⟨wt1.heap.size, 11, none⟩ = some (.slice a11T1 x1.kids.length c11T1) ∧ Below w.heap.size w W)
      (first | exact ⟨C0_0, C1_0, C1_1, C1_2, C1_3, C1_4, C1_5, C1_6, C1_7, C1_8, C1_9, C1_10, C1_11, C2_0, C3_0, C3_1, C3_2, C3_3, C3_4, C3_5, C3_6, C3_7, C3_8, C3_9, C3_10, C3_11, hB.drew⟩ | (refine ⟨?_, ?_, ?_, ?_, ?_, ?_, ?_, ?_, ?_, ?_, ?_, ?_, ?_, ?_, ?_, ?_, ?_, ?_, ?_, ?_, ?_, ?_, ?_, ?_, ?_, ?_, (hB).trans ((below_undrew' hbE00).mono (hB).size)⟩ <;> (refine (cell_keep ?_ (below_undrew' hbE00)); assumption)) | (refine (cell_keep ?_ (below_undrew' hbE00)); assumption) | exact (hB).trans ((below_undrew' hbE00).mono (hB).size) | (refine ⟨?_, ?_, ?_, ?_, ?_, ?_, ?_, ?_, ?_, ?_, ?_, ?_, ?_, ?_, ?_, ?_, ?_, ?_, ?_, ?_, ?_, ?_, ?_, ?_, ?_, ?_, ((hB).trans ((below_undrew' hbE00).mono (hB).size)).trans (hbE01.mono ((hB).trans ((below_undrew' hbE00).mono (hB).size)).size)⟩ <;> (refine (cell_keep (cell_keep ?_ (below_undrew' hbE00)) hbE01); assumption)) | (refine (cell_keep (cell_keep ?_ (below_undrew' hbE00)) hbE01); assumption) | exact ((hB).trans ((below_undrew' hbE00).mono (hB).size)).trans (hbE01.mono ((hB).trans ((below_undrew' hbE00).mono (hB).size)).size))
      (first | (go_at_call 13; (with_reducible refine (toSig_x x0 _ _ _ hbig0 (by exact hv0.below (hB.drew))).mono ?_); rintro e wE00 ⟨u0, uf0, rfl, ur0, ug0, hbE00⟩) | (go_at_call 16; (with_reducible refine (eqSig_x x0 _ _ _ _ _ (by exact tr0.below ((below_undrew' hbE00))) (by exact ur0)).mono ?_); rintro e wE01 ⟨rfl, hbE01⟩))
    have hb := below_undrew' hbE00
    clear hbE00
    replace X0 := cells_later X0 hlX0 hb
    replace X1 := cells_later X1 hlX1 hb
    replace hZ0 := cells_later hZ0 hlhZ0 hb
    replace hZ1 := cells_later hZ1 hlhZ1 hb
    replace tr0 := tr0.below hb
    replace tr1 := tr1.below hb
    replace hB := hB.trans (hb.mono hz0)
    have hzn := hb.size
    replace hlX0 := Nat.lt_of_lt_of_le hlX0 hzn
    replace hlX1 := Nat.lt_of_lt_of_le hlX1 hzn
    replace hlhZ0 := Nat.lt_of_lt_of_le hlhZ0 hzn
    replace hlhZ1 := Nat.lt_of_lt_of_le hlhZ1 hzn
    replace hz0 := Nat.le_trans hz0 hzn
    clear hb hzn
    have hb := hbE01
    clear hbE01
    replace X0 := cells_later X0 hlX0 hb
    replace X1 := cells_later X1 hlX1 hb
    replace hZ0 := cells_later hZ0 hlhZ0 hb
    replace hZ1 := cells_later hZ1 hlhZ1 hb
    replace tr0 := tr0.below hb
    replace tr1 := tr1.below hb
    replace hB := hB.trans (hb.mono hz0)
    have hzn := hb.size
    replace hlX0 := Nat.lt_of_lt_of_le hlX0 hzn
    replace hlX1 := Nat.lt_of_lt_of_le hlX1 hzn
    replace hlhZ0 := Nat.lt_of_lt_of_le hlhZ0 hzn
    replace hlhZ1 := Nat.lt_of_lt_of_le hlhZ1 hzn
    replace hz0 := Nat.le_trans hz0 hzn
    clear hb hzn
    clear C0_0 C1_0 C1_1 C1_2 C1_3 C1_4 C1_5 C1_6 C1_7 C1_8 C1_9 C1_10 C1_11 C2_0 C3_0 C3_1 C3_2 C3_3 C3_4 C3_5 C3_6 C3_7 C3_8 C3_9 C3_10 C3_11
    go_wp2_with fail
    have C0_0 := X0 0
    have C1_0 := X1 0
    have C1_1 := X1 1
    have C1_2 := X1 2
    have C1_3 := X1 3
    have C1_4 := X1 4
    have C1_5 := X1 5
    have C1_6 := X1 6
    have C1_7 := X1 7
    have C1_8 := X1 8
    have C1_9 := X1 9
    have C1_10 := X1 10
    have C1_11 := X1 11
    have C2_0 := hZ0 0
    have C3_0 := hZ1 0
    have C3_1 := hZ1 1
    have C3_2 := hZ1 2
    have C3_3 := hZ1 3
    have C3_4 := hZ1 4
    have C3_5 := hZ1 5
    have C3_6 := hZ1 6
    have C3_7 := hZ1 7
    have C3_8 := hZ1 8
    have C3_9 := hZ1 9
    have C3_10 := hZ1 10
    have C3_11 := hZ1 11
    simp only [List.getElem?_toArray, List.getElem?_cons_zero, List.getElem?_cons_succ] at C0_0 C1_0 C1_1 C1_2 C1_3 C1_4 C1_5 C1_6 C1_7 C1_8 C1_9 C1_10 C1_11 C2_0 C3_0 C3_1 C3_2 C3_3 C3_4 C3_5 C3_6 C3_7 C3_8 C3_9 C3_10 C3_11
    go_region_held3 (fun W => W.cell? ⟨w.heap.size, 0, none⟩ = some (.slice a0A0 x0.syms.length c0A0) ∧ W.cell? ⟨w.heap.size + 1, 0, none⟩ = some (.int .i64 x1.kind) ∧ W.cell? ⟨w.heap.size + 1, 1, none⟩ = some (.int .i64 x1.lit.atom.kind) ∧ W.cell? ⟨w.heap.size + 1, 2, none⟩ = some (.string x1.lit.atom.a.name) ∧ W.cell? ⟨w.heap.size + 1, 3, none⟩ = some (.slice a3A1 x1.lit.atom.a.kids.length c3A1) ∧ W.cell? ⟨w.heap.size + 1, 4, none⟩ = some (.string x1.lit.atom.b.name) ∧ W.cell? ⟨w.heap.size + 1, 5, none⟩ = some (.slice a5A1 x1.lit.atom.b.kids.length c5A1) ∧ W.cell? ⟨w.heap.size + 1, 6, none⟩ = some (.slice a6A1 x1.lit.atom.nums.length c6A1) ∧ W.cell? ⟨w.heap.size + 1, 7, none⟩ = some (.slice a7A1 x1.lit.atom.times.length c7A1) ∧ W.cell? ⟨w.heap.size + 1, 8, none⟩ = some (.int .i64 x1.lit.atom.bound) ∧ W.cell? ⟨w.heap.size + 1, 9, none⟩ = some (.bool x1.lit.atom.strict) ∧ W.cell? ⟨w.heap.size + 1, 10, none⟩ = some (.bool x1.lit.no) ∧ W.cell? ⟨w.heap.size + 1, 11, none⟩ = some (.slice a11A1 x1.kids.length c11A1) ∧ W.cell? ⟨wt0.heap.size, 0, none⟩ = some (.slice a0T0 x0.syms.length c0T0) ∧ W.cell? ⟨wt1.heap.size, 0, none⟩ = some (.int .i64 x1.kind) ∧ W.cell? ⟨wt1.heap.size, 1, none⟩ = some (.int .i64 x1.lit.atom.kind) ∧ W.cell? ⟨wt1.heap.size, 2, none⟩ = some (.string x1.lit.atom.a.name) ∧ W.cell? ⟨wt1.heap.size, 3, none⟩ = some (.slice a3T1 x1.lit.atom.a.kids.length c3T1) ∧ W.cell? ⟨wt1.heap.size, 4, none⟩ = some (.string x1.lit.atom.b.name) ∧ W.cell? ⟨wt1.heap.size, 5, none⟩ = some (.slice a5T1 x1.lit.atom.b.kids.length c5T1) ∧ W.cell? ⟨wt1.heap.size, 6, none⟩ = some (.slice a6T1 x1.lit.atom.nums.length c6T1) ∧ W.cell? ⟨wt1.heap.size, 7, none⟩ = some (.slice a7T1 x1.lit.atom.times.length c7T1) ∧ W.cell? ⟨wt1.heap.size, 8, none⟩ = some (.int .i64 x1.lit.atom.bound) ∧ W.cell? ⟨wt1.heap.size, 9, none⟩ = some (.bool x1.lit.atom.strict) ∧ W.cell? ⟨wt1.heap.size, 10, none⟩ = some (.bool x1.lit.no) ∧ W.cell? ⟨wt1.heap.size, 11, none⟩ = some (.slice a11T1 x1.kids.length c11T1) ∧ Below w.heap.size w W)
      (first | exact ⟨C0_0, C1_0, C1_1, C1_2, C1_3, C1_4, C1_5, C1_6, C1_7, C1_8, C1_9, C1_10, C1_11, C2_0, C3_0, C3_1, C3_2, C3_3, C3_4, C3_5, C3_6, C3_7, C3_8, C3_9, C3_10, C3_11, hB.drew⟩ | (refine ⟨?_, ?_, ?_, ?_, ?_, ?_, ?_, ?_, ?_, ?_, ?_, ?_, ?_, ?_, ?_, ?_, ?_, ?_, ?_, ?_, ?_, ?_, ?_, ?_, ?_, ?_, (hB).trans ((below_undrew' hbE10).mono (hB).size)⟩ <;> (refine (cell_keep ?_ (below_undrew' hbE10)); assumption)) | (refine (cell_keep ?_ (below_undrew' hbE10)); assumption) | exact (hB).trans ((below_undrew' hbE10).mono (hB).size) | (refine ⟨?_, ?_, ?_, ?_, ?_, ?_, ?_, ?_, ?_, ?_, ?_, ?_, ?_, ?_, ?_, ?_, ?_, ?_, ?_, ?_, ?_, ?_, ?_, ?_, ?_, ?_, ((hB).trans ((below_undrew' hbE10).mono (hB).size)).trans (hbE11.mono ((hB).trans ((below_undrew' hbE10).mono (hB).size)).size)⟩ <;> (refine (cell_keep (cell_keep ?_ (below_undrew' hbE10)) hbE11); assumption)) | (refine (cell_keep (cell_keep ?_ (below_undrew' hbE10)) hbE11); assumption) | exact ((hB).trans ((below_undrew' hbE10).mono (hB).size)).trans (hbE11.mono ((hB).trans ((below_undrew' hbE10).mono (hB).size)).size))
      (first | (go_at_call 14; (with_reducible refine (toForm_x x1 _ _ _ hbig1 (by exact hv1.below (hB.drew))).mono ?_); rintro e wE10 ⟨u1, uf1, rfl, ur1, ug1, hbE10⟩) | (go_at_call 17; (with_reducible refine (eqForm_x x1 _ _ _ _ _ (by exact tr1.below ((below_undrew' hbE10))) (by exact ur1)).mono ?_); rintro e wE11 ⟨rfl, hbE11⟩))
    have hb := below_undrew' hbE10
    clear hbE10
    replace X0 := cells_later X0 hlX0 hb
    replace X1 := cells_later X1 hlX1 hb
    replace hZ0 := cells_later hZ0 hlhZ0 hb
    replace hZ1 := cells_later hZ1 hlhZ1 hb
    replace tr0 := tr0.below hb
    replace tr1 := tr1.below hb
    replace hB := hB.trans (hb.mono hz0)
    have hzn := hb.size
    replace hlX0 := Nat.lt_of_lt_of_le hlX0 hzn
    replace hlX1 := Nat.lt_of_lt_of_le hlX1 hzn
    replace hlhZ0 := Nat.lt_of_lt_of_le hlhZ0 hzn
    replace hlhZ1 := Nat.lt_of_lt_of_le hlhZ1 hzn
    replace hz0 := Nat.le_trans hz0 hzn
    clear hb hzn
    have hb := hbE11
    clear hbE11
    replace X0 := cells_later X0 hlX0 hb
    replace X1 := cells_later X1 hlX1 hb
    replace hZ0 := cells_later hZ0 hlhZ0 hb
    replace hZ1 := cells_later hZ1 hlhZ1 hb
    replace tr0 := tr0.below hb
    replace tr1 := tr1.below hb
    replace hB := hB.trans (hb.mono hz0)
    have hzn := hb.size
    replace hlX0 := Nat.lt_of_lt_of_le hlX0 hzn
    replace hlX1 := Nat.lt_of_lt_of_le hlX1 hzn
    replace hlhZ0 := Nat.lt_of_lt_of_le hlhZ0 hzn
    replace hlhZ1 := Nat.lt_of_lt_of_le hlhZ1 hzn
    replace hz0 := Nat.le_trans hz0 hzn
    clear hb hzn
    clear C0_0 C1_0 C1_1 C1_2 C1_3 C1_4 C1_5 C1_6 C1_7 C1_8 C1_9 C1_10 C1_11 C2_0 C3_0 C3_1 C3_2 C3_3 C3_4 C3_5 C3_6 C3_7 C3_8 C3_9 C3_10 C3_11
    go_wp2_with fail
    go_ret
    exact ⟨rfl, hB⟩
end Go.Proofs.YtlcfophhjflpdaaGreat
