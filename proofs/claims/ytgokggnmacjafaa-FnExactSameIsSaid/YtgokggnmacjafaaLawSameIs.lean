/- The law FnExactSameIs returns true. -/
import Derived.Deep.RegionHeld3
import Derived.Test.YtgokggnmacjafaaCloY
import Derived.Test.YtgokggnmacjafaaExSz
import Derived.Test.YtgokggnmacjafaaExTo
import Derived.Test.YtgokggnmacjafaaExEq
namespace Go.Proofs.Ytgokggnmacjafaa
open Go Go.RowKit
set_option linter.unusedVariables false
set_option linter.unusedSimpArgs false
set_option maxHeartbeats 2000000 in
theorem exSameIs_walk (x0 : Sg) (v0 : List Value) (f0 : List Nat) (x1 : List Eqn) (v1 : Value) (f1 : List Nat) (x2 : Tm) (v2 : List Value) (f2 : List Nat) (x3 : Tm) (v3 : List Value) (f3 : List Nat) (w : World) (hv0 : RdVs w x0.cd v0 f0) (hv1 : Rd w (.sl (x1.map Eqn.cd)) v1 f1) (hv2 : RdVs w x2.cd v2 f2) (hv3 : RdVs w x3.cd v3 f3) :
    Calls Try.prog 8 #[.agg v0.toArray, v1, .agg v2.toArray, .agg v3.toArray] w fun e w' => e = .returned (.bool true) ∧ Below w.heap.size w w' := by
  obtain ⟨a0A0, c0A0, f0A0, rfl, _, _⟩ := Sg.open hv0
  obtain ⟨p1, q1, rfl, hc1, hd1⟩ := rd_sl_inv hv1
  obtain ⟨a1A2, c1A2, f1A2, rfl, _, _, _⟩ := Tm.open hv2
  obtain ⟨a1A3, c1A3, f1A3, rfl, _, _, _⟩ := Tm.open hv3
  go_enter Try.func8, Try.ntmps8
  go_wp2_with fail
  refine (szSig_x x0 _ _ _ _ (by omega) (by omega) (by exact hv0.below ((((Below.refl _ _).alloc (Nat.le_refl _) _).alloc (by simp) _).alloc (by simp; omega) _))).mono ?_
  rintro e w1 ⟨⟨r0, rfl, hr0⟩, hb⟩
  obtain ⟨X0, X2, X3, _, _, hz, hB⟩ := box3 (w := w) (wr := w1) (cs := #[.slice a0A0 x0.syms.length c0A0]) (ds := #[.string x2.name, .slice a1A2 x2.kids.length c1A2]) (es := #[.string x3.name, .slice a1A3 x3.kids.length c1A3]) (T := 55) (U := 59) (V := 59) (below_size hb (by simp))
  have hz0 := hB.size
  have hlX0 : w.heap.size < w1.heap.size := by omega
  have hlX2 : w.heap.size + 1 < w1.heap.size := by omega
  have hlX3 : w.heap.size + 1 + 1 < w1.heap.size := by omega
  clear hb
  rcases hr0 with ⟨hs0, rfl⟩ | ⟨hs0, rfl⟩
  rotate_left
  · go_wp2_with fail
    go_ret
    exact ⟨rfl, hB⟩
  go_wp2_with fail
  refine (szEqS_x x1 _ _ _ _ (by omega) (by omega) (by exact hv1.below hB)).mono ?_
  rintro e w2 ⟨⟨r1, rfl, hr1⟩, hb⟩
  replace X0 := cells_later X0 hlX0 hb
  replace X2 := cells_later X2 hlX2 hb
  replace X3 := cells_later X3 hlX3 hb
  replace hB := hB.trans (hb.mono hz0)
  have hzn := hb.size
  replace hlX0 := Nat.lt_of_lt_of_le hlX0 hzn
  replace hlX2 := Nat.lt_of_lt_of_le hlX2 hzn
  replace hlX3 := Nat.lt_of_lt_of_le hlX3 hzn
  replace hz0 := Nat.le_trans hz0 hzn
  clear hb hzn
  rcases hr1 with ⟨hs1, rfl⟩ | ⟨hs1, rfl⟩
  rotate_left
  · go_wp2_with fail
    go_ret
    exact ⟨rfl, hB⟩
  go_wp2_with fail
  refine (szTerm_x x2 _ _ _ _ (by omega) (by omega) (by exact hv2.below hB)).mono ?_
  rintro e w3 ⟨⟨r2, rfl, hr2⟩, hb⟩
  replace X0 := cells_later X0 hlX0 hb
  replace X2 := cells_later X2 hlX2 hb
  replace X3 := cells_later X3 hlX3 hb
  replace hB := hB.trans (hb.mono hz0)
  have hzn := hb.size
  replace hlX0 := Nat.lt_of_lt_of_le hlX0 hzn
  replace hlX2 := Nat.lt_of_lt_of_le hlX2 hzn
  replace hlX3 := Nat.lt_of_lt_of_le hlX3 hzn
  replace hz0 := Nat.le_trans hz0 hzn
  clear hb hzn
  rcases hr2 with ⟨hs2, rfl⟩ | ⟨hs2, rfl⟩
  rotate_left
  · go_wp2_with fail
    go_ret
    exact ⟨rfl, hB⟩
  go_wp2_with fail
  refine (szTerm_x x3 _ _ _ _ (by omega) (by omega) (by exact hv3.below hB)).mono ?_
  rintro e w4 ⟨⟨r3, rfl, hr3⟩, hb⟩
  replace X0 := cells_later X0 hlX0 hb
  replace X2 := cells_later X2 hlX2 hb
  replace X3 := cells_later X3 hlX3 hb
  replace hB := hB.trans (hb.mono hz0)
  have hzn := hb.size
  replace hlX0 := Nat.lt_of_lt_of_le hlX0 hzn
  replace hlX2 := Nat.lt_of_lt_of_le hlX2 hzn
  replace hlX3 := Nat.lt_of_lt_of_le hlX3 hzn
  replace hz0 := Nat.le_trans hz0 hzn
  clear hb hzn
  rcases hr3 with ⟨hs3, rfl⟩ | ⟨hs3, rfl⟩
  rotate_left
  · go_wp2_with fail
    go_ret
    exact ⟨rfl, hB⟩
  go_wp2_with fail
  have hbig0 : wtV x0.cd ≤ 1048576 := by omega
  have hbig1 : (x1.length + wtR (x1.map Eqn.cd)) ≤ 1048576 := by omega
  have hbig2 : wtV x2.cd ≤ 1048576 := by omega
  have hbig3 : wtV x3.cd ≤ 1048576 := by omega
  clear hs0 hs1 hs2 hs3
  have C0_0 := X0 0
  have C1_0 := X2 0
  have C1_1 := X2 1
  have C2_0 := X3 0
  have C2_1 := X3 1
  simp only [List.getElem?_toArray, List.getElem?_cons_zero, List.getElem?_cons_succ] at C0_0 C1_0 C1_1 C2_0 C2_1
  go_region_held3 (fun W => W.cell? ⟨w.heap.size, 0, none⟩ = some (.slice a0A0 x0.syms.length c0A0) ∧ W.cell? ⟨w.heap.size + 1, 0, none⟩ = some (.string x2.name) ∧ W.cell? ⟨w.heap.size + 1, 1, none⟩ = some (.slice a1A2 x2.kids.length c1A2) ∧ W.cell? ⟨w.heap.size + 1 + 1, 0, none⟩ = some (.string x3.name) ∧ W.cell? ⟨w.heap.size + 1 + 1, 1, none⟩ = some (.slice a1A3 x3.kids.length c1A3) ∧ Below w.heap.size w W)
    (first | exact ⟨C0_0, C1_0, C1_1, C2_0, C2_1, hB.drew⟩ | (refine ⟨?_, ?_, ?_, ?_, ?_, (hB).trans ((below_undrew' hbS0).mono (hB).size)⟩ <;> (refine (cell_keep ?_ (below_undrew' hbS0)); assumption)) | (refine (cell_keep ?_ (below_undrew' hbS0)); assumption) | exact (hB).trans ((below_undrew' hbS0).mono (hB).size) | (refine ⟨?_, ?_, ?_, ?_, ?_, ((hB).trans ((below_undrew' hbS0).mono (hB).size)).trans (hbS1.mono ((hB).trans ((below_undrew' hbS0).mono (hB).size)).size)⟩ <;> (refine (cell_keep (cell_keep ?_ (below_undrew' hbS0)) hbS1); assumption)) | (refine (cell_keep (cell_keep ?_ (below_undrew' hbS0)) hbS1); assumption) | exact ((hB).trans ((below_undrew' hbS0).mono (hB).size)).trans (hbS1.mono ((hB).trans ((below_undrew' hbS0).mono (hB).size)).size) | (refine ⟨?_, ?_, ?_, ?_, ?_, (((hB).trans ((below_undrew' hbS0).mono (hB).size)).trans (hbS1.mono ((hB).trans ((below_undrew' hbS0).mono (hB).size)).size)).trans (hbS2.mono (((hB).trans ((below_undrew' hbS0).mono (hB).size)).trans (hbS1.mono ((hB).trans ((below_undrew' hbS0).mono (hB).size)).size)).size)⟩ <;> (refine (cell_keep (cell_keep (cell_keep ?_ (below_undrew' hbS0)) hbS1) hbS2); assumption)) | (refine (cell_keep (cell_keep (cell_keep ?_ (below_undrew' hbS0)) hbS1) hbS2); assumption) | exact (((hB).trans ((below_undrew' hbS0).mono (hB).size)).trans (hbS1.mono ((hB).trans ((below_undrew' hbS0).mono (hB).size)).size)).trans (hbS2.mono (((hB).trans ((below_undrew' hbS0).mono (hB).size)).trans (hbS1.mono ((hB).trans ((below_undrew' hbS0).mono (hB).size)).size)).size) | (refine ⟨?_, ?_, ?_, ?_, ?_, ((((hB).trans ((below_undrew' hbS0).mono (hB).size)).trans (hbS1.mono ((hB).trans ((below_undrew' hbS0).mono (hB).size)).size)).trans (hbS2.mono (((hB).trans ((below_undrew' hbS0).mono (hB).size)).trans (hbS1.mono ((hB).trans ((below_undrew' hbS0).mono (hB).size)).size)).size)).trans (hbS3.mono ((((hB).trans ((below_undrew' hbS0).mono (hB).size)).trans (hbS1.mono ((hB).trans ((below_undrew' hbS0).mono (hB).size)).size)).trans (hbS2.mono (((hB).trans ((below_undrew' hbS0).mono (hB).size)).trans (hbS1.mono ((hB).trans ((below_undrew' hbS0).mono (hB).size)).size)).size)).size)⟩ <;> (refine (cell_keep (cell_keep (cell_keep (cell_keep ?_ (below_undrew' hbS0)) hbS1) hbS2) hbS3); assumption)) | (refine (cell_keep (cell_keep (cell_keep (cell_keep ?_ (below_undrew' hbS0)) hbS1) hbS2) hbS3); assumption) | exact ((((hB).trans ((below_undrew' hbS0).mono (hB).size)).trans (hbS1.mono ((hB).trans ((below_undrew' hbS0).mono (hB).size)).size)).trans (hbS2.mono (((hB).trans ((below_undrew' hbS0).mono (hB).size)).trans (hbS1.mono ((hB).trans ((below_undrew' hbS0).mono (hB).size)).size)).size)).trans (hbS3.mono ((((hB).trans ((below_undrew' hbS0).mono (hB).size)).trans (hbS1.mono ((hB).trans ((below_undrew' hbS0).mono (hB).size)).size)).trans (hbS2.mono (((hB).trans ((below_undrew' hbS0).mono (hB).size)).trans (hbS1.mono ((hB).trans ((below_undrew' hbS0).mono (hB).size)).size)).size)).size) | (refine ⟨?_, ?_, ?_, ?_, ?_, (((((hB).trans ((below_undrew' hbS0).mono (hB).size)).trans (hbS1.mono ((hB).trans ((below_undrew' hbS0).mono (hB).size)).size)).trans (hbS2.mono (((hB).trans ((below_undrew' hbS0).mono (hB).size)).trans (hbS1.mono ((hB).trans ((below_undrew' hbS0).mono (hB).size)).size)).size)).trans (hbS3.mono ((((hB).trans ((below_undrew' hbS0).mono (hB).size)).trans (hbS1.mono ((hB).trans ((below_undrew' hbS0).mono (hB).size)).size)).trans (hbS2.mono (((hB).trans ((below_undrew' hbS0).mono (hB).size)).trans (hbS1.mono ((hB).trans ((below_undrew' hbS0).mono (hB).size)).size)).size)).size)).trans (hbS4.mono (((((hB).trans ((below_undrew' hbS0).mono (hB).size)).trans (hbS1.mono ((hB).trans ((below_undrew' hbS0).mono (hB).size)).size)).trans (hbS2.mono (((hB).trans ((below_undrew' hbS0).mono (hB).size)).trans (hbS1.mono ((hB).trans ((below_undrew' hbS0).mono (hB).size)).size)).size)).trans (hbS3.mono ((((hB).trans ((below_undrew' hbS0).mono (hB).size)).trans (hbS1.mono ((hB).trans ((below_undrew' hbS0).mono (hB).size)).size)).trans (hbS2.mono (((hB).trans ((below_undrew' hbS0).mono (hB).size)).trans (hbS1.mono ((hB).trans ((below_undrew' hbS0).mono (hB).size)).size)).size)).size)).size)⟩ <;> (refine (cell_keep (cell_keep (cell_keep (cell_keep (cell_keep ?_ (below_undrew' hbS0)) hbS1) hbS2) hbS3) hbS4); assumption)) | (refine (cell_keep (cell_keep (cell_keep (cell_keep (cell_keep ?_ (below_undrew' hbS0)) hbS1) hbS2) hbS3) hbS4); assumption) | exact (((((hB).trans ((below_undrew' hbS0).mono (hB).size)).trans (hbS1.mono ((hB).trans ((below_undrew' hbS0).mono (hB).size)).size)).trans (hbS2.mono (((hB).trans ((below_undrew' hbS0).mono (hB).size)).trans (hbS1.mono ((hB).trans ((below_undrew' hbS0).mono (hB).size)).size)).size)).trans (hbS3.mono ((((hB).trans ((below_undrew' hbS0).mono (hB).size)).trans (hbS1.mono ((hB).trans ((below_undrew' hbS0).mono (hB).size)).size)).trans (hbS2.mono (((hB).trans ((below_undrew' hbS0).mono (hB).size)).trans (hbS1.mono ((hB).trans ((below_undrew' hbS0).mono (hB).size)).size)).size)).size)).trans (hbS4.mono (((((hB).trans ((below_undrew' hbS0).mono (hB).size)).trans (hbS1.mono ((hB).trans ((below_undrew' hbS0).mono (hB).size)).size)).trans (hbS2.mono (((hB).trans ((below_undrew' hbS0).mono (hB).size)).trans (hbS1.mono ((hB).trans ((below_undrew' hbS0).mono (hB).size)).size)).size)).trans (hbS3.mono ((((hB).trans ((below_undrew' hbS0).mono (hB).size)).trans (hbS1.mono ((hB).trans ((below_undrew' hbS0).mono (hB).size)).size)).trans (hbS2.mono (((hB).trans ((below_undrew' hbS0).mono (hB).size)).trans (hbS1.mono ((hB).trans ((below_undrew' hbS0).mono (hB).size)).size)).size)).size)).size))
    (first | (go_at_call 31; (with_reducible refine (toSig_x x0 _ _ _ hbig0 (by exact hv0.below (hB.drew))).mono ?_); rintro e wS0 ⟨s0, sf0, rfl, sr0, sg0, hbS0⟩) | (go_at_call 32; (with_reducible refine (toEqS_x x1 _ _ _ hbig1 (by exact hv1.below ((hB).trans ((below_undrew' hbS0).mono (hB).size)))).mono ?_); rintro e wS1 ⟨s1, sf1, rfl, sr1, sg1, hbS1⟩) | (go_at_call 33; (with_reducible refine (toTerm_x x2 _ _ _ hbig2 (by exact hv2.below (((hB).trans ((below_undrew' hbS0).mono (hB).size)).trans (hbS1.mono ((hB).trans ((below_undrew' hbS0).mono (hB).size)).size)))).mono ?_); rintro e wS2 ⟨s2, sf2, rfl, sr2, sg2, hbS2⟩) | (go_at_call 33; (with_reducible refine (toTerm_x x3 _ _ _ hbig3 (by exact hv3.below ((((hB).trans ((below_undrew' hbS0).mono (hB).size)).trans (hbS1.mono ((hB).trans ((below_undrew' hbS0).mono (hB).size)).size)).trans (hbS2.mono (((hB).trans ((below_undrew' hbS0).mono (hB).size)).trans (hbS1.mono ((hB).trans ((below_undrew' hbS0).mono (hB).size)).size)).size)))).mono ?_); rintro e wS3 ⟨s3, sf3, rfl, sr3, sg3, hbS3⟩) | (go_at_call 30; (with_reducible refine (sameIsS_any x0 x1 x2 x3 _ _ _ _ _ _ _ _ _ (more_big2 hbig1 hbig2 hbig3) (by exact (((sr0).below hbS1).below hbS2).below hbS3) (by exact ((sr1).below hbS2).below hbS3) (by exact (sr2).below hbS3) (by exact sr3)).mono ?_); rintro e wS4 ⟨rfl, hbS4⟩))
  have hb := below_undrew' hbS0
  clear hbS0
  replace X0 := cells_later X0 hlX0 hb
  replace X2 := cells_later X2 hlX2 hb
  replace X3 := cells_later X3 hlX3 hb
  replace hB := hB.trans (hb.mono hz0)
  have hzn := hb.size
  replace hlX0 := Nat.lt_of_lt_of_le hlX0 hzn
  replace hlX2 := Nat.lt_of_lt_of_le hlX2 hzn
  replace hlX3 := Nat.lt_of_lt_of_le hlX3 hzn
  replace hz0 := Nat.le_trans hz0 hzn
  clear hb hzn
  have hb := hbS1
  clear hbS1
  replace X0 := cells_later X0 hlX0 hb
  replace X2 := cells_later X2 hlX2 hb
  replace X3 := cells_later X3 hlX3 hb
  replace hB := hB.trans (hb.mono hz0)
  have hzn := hb.size
  replace hlX0 := Nat.lt_of_lt_of_le hlX0 hzn
  replace hlX2 := Nat.lt_of_lt_of_le hlX2 hzn
  replace hlX3 := Nat.lt_of_lt_of_le hlX3 hzn
  replace hz0 := Nat.le_trans hz0 hzn
  clear hb hzn
  have hb := hbS2
  clear hbS2
  replace X0 := cells_later X0 hlX0 hb
  replace X2 := cells_later X2 hlX2 hb
  replace X3 := cells_later X3 hlX3 hb
  replace hB := hB.trans (hb.mono hz0)
  have hzn := hb.size
  replace hlX0 := Nat.lt_of_lt_of_le hlX0 hzn
  replace hlX2 := Nat.lt_of_lt_of_le hlX2 hzn
  replace hlX3 := Nat.lt_of_lt_of_le hlX3 hzn
  replace hz0 := Nat.le_trans hz0 hzn
  clear hb hzn
  have hb := hbS3
  clear hbS3
  replace X0 := cells_later X0 hlX0 hb
  replace X2 := cells_later X2 hlX2 hb
  replace X3 := cells_later X3 hlX3 hb
  replace hB := hB.trans (hb.mono hz0)
  have hzn := hb.size
  replace hlX0 := Nat.lt_of_lt_of_le hlX0 hzn
  replace hlX2 := Nat.lt_of_lt_of_le hlX2 hzn
  replace hlX3 := Nat.lt_of_lt_of_le hlX3 hzn
  replace hz0 := Nat.le_trans hz0 hzn
  clear hb hzn
  have hb := hbS4
  clear hbS4
  replace X0 := cells_later X0 hlX0 hb
  replace X2 := cells_later X2 hlX2 hb
  replace X3 := cells_later X3 hlX3 hb
  replace hB := hB.trans (hb.mono hz0)
  have hzn := hb.size
  replace hlX0 := Nat.lt_of_lt_of_le hlX0 hzn
  replace hlX2 := Nat.lt_of_lt_of_le hlX2 hzn
  replace hlX3 := Nat.lt_of_lt_of_le hlX3 hzn
  replace hz0 := Nat.le_trans hz0 hzn
  clear hb hzn
  clear C0_0 C1_0 C1_1 C2_0 C2_1
  go_wp2_with fail
  refine (toSig_x x0 _ _ _ hbig0 (by exact hv0.below hB)).mono ?_
  rintro e wt0 ⟨t0, tf0, rfl, tr0, tg0, hb⟩
  replace X0 := cells_later X0 hlX0 hb
  replace X2 := cells_later X2 hlX2 hb
  replace X3 := cells_later X3 hlX3 hb
  replace hB := hB.trans (hb.mono hz0)
  have hzn := hb.size
  replace hlX0 := Nat.lt_of_lt_of_le hlX0 hzn
  replace hlX2 := Nat.lt_of_lt_of_le hlX2 hzn
  replace hlX3 := Nat.lt_of_lt_of_le hlX3 hzn
  replace hz0 := Nat.le_trans hz0 hzn
  clear hb hzn
  have tr0' := tr0
  obtain ⟨a0T0, c0T0, f0T0, rfl, _, _⟩ := Sg.open tr0'
  have hZ0 := cell_new wt0 #[.slice a0T0 x0.syms.length c0T0] 25
  have hb := below_alloc wt0 (.cells #[.slice a0T0 x0.syms.length c0T0] 25)
  have hzz : (wt0.alloc (.cells #[.slice a0T0 x0.syms.length c0T0] 25)).heap.size = wt0.heap.size + 1 := by simp
  replace X0 := cells_later X0 hlX0 hb
  replace X2 := cells_later X2 hlX2 hb
  replace X3 := cells_later X3 hlX3 hb
  replace tr0 := tr0.below hb
  replace hB := hB.trans (hb.mono hz0)
  have hzn := hb.size
  replace hlX0 := Nat.lt_of_lt_of_le hlX0 hzn
  replace hlX2 := Nat.lt_of_lt_of_le hlX2 hzn
  replace hlX3 := Nat.lt_of_lt_of_le hlX3 hzn
  replace hz0 := Nat.le_trans hz0 hzn
  clear hb hzn
  have hlhZ0 : wt0.heap.size < (wt0.alloc (.cells #[.slice a0T0 x0.syms.length c0T0] 25)).heap.size := by simp
  go_wp2_with fail
  refine (toEqS_x x1 _ _ _ hbig1 (by exact hv1.below hB)).mono ?_
  rintro e wt1 ⟨t1, tf1, rfl, tr1, tg1, hb⟩
  replace X0 := cells_later X0 hlX0 hb
  replace X2 := cells_later X2 hlX2 hb
  replace X3 := cells_later X3 hlX3 hb
  replace hZ0 := cells_later hZ0 hlhZ0 hb
  replace tr0 := tr0.below hb
  replace hB := hB.trans (hb.mono hz0)
  have hzn := hb.size
  replace hlX0 := Nat.lt_of_lt_of_le hlX0 hzn
  replace hlX2 := Nat.lt_of_lt_of_le hlX2 hzn
  replace hlX3 := Nat.lt_of_lt_of_le hlX3 hzn
  replace hlhZ0 := Nat.lt_of_lt_of_le hlhZ0 hzn
  replace hz0 := Nat.le_trans hz0 hzn
  clear hb hzn
  go_wp2_with fail
  refine (toTerm_x x2 _ _ _ hbig2 (by exact hv2.below hB)).mono ?_
  rintro e wt2 ⟨t2, tf2, rfl, tr2, tg2, hb⟩
  replace X0 := cells_later X0 hlX0 hb
  replace X2 := cells_later X2 hlX2 hb
  replace X3 := cells_later X3 hlX3 hb
  replace hZ0 := cells_later hZ0 hlhZ0 hb
  replace tr0 := tr0.below hb
  replace tr1 := tr1.below hb
  replace hB := hB.trans (hb.mono hz0)
  have hzn := hb.size
  replace hlX0 := Nat.lt_of_lt_of_le hlX0 hzn
  replace hlX2 := Nat.lt_of_lt_of_le hlX2 hzn
  replace hlX3 := Nat.lt_of_lt_of_le hlX3 hzn
  replace hlhZ0 := Nat.lt_of_lt_of_le hlhZ0 hzn
  replace hz0 := Nat.le_trans hz0 hzn
  clear hb hzn
  have tr2' := tr2
  obtain ⟨a1T2, c1T2, f1T2, rfl, _, _, _⟩ := Tm.open tr2'
  have hZ2 := cell_new wt2 #[.string x2.name, .slice a1T2 x2.kids.length c1T2] 28
  have hb := below_alloc wt2 (.cells #[.string x2.name, .slice a1T2 x2.kids.length c1T2] 28)
  have hzz : (wt2.alloc (.cells #[.string x2.name, .slice a1T2 x2.kids.length c1T2] 28)).heap.size = wt2.heap.size + 1 := by simp
  replace X0 := cells_later X0 hlX0 hb
  replace X2 := cells_later X2 hlX2 hb
  replace X3 := cells_later X3 hlX3 hb
  replace hZ0 := cells_later hZ0 hlhZ0 hb
  replace tr0 := tr0.below hb
  replace tr1 := tr1.below hb
  replace tr2 := tr2.below hb
  replace hB := hB.trans (hb.mono hz0)
  have hzn := hb.size
  replace hlX0 := Nat.lt_of_lt_of_le hlX0 hzn
  replace hlX2 := Nat.lt_of_lt_of_le hlX2 hzn
  replace hlX3 := Nat.lt_of_lt_of_le hlX3 hzn
  replace hlhZ0 := Nat.lt_of_lt_of_le hlhZ0 hzn
  replace hz0 := Nat.le_trans hz0 hzn
  clear hb hzn
  have hlhZ2 : wt2.heap.size < (wt2.alloc (.cells #[.string x2.name, .slice a1T2 x2.kids.length c1T2] 28)).heap.size := by simp
  go_wp2_with fail
  refine (toTerm_x x3 _ _ _ hbig3 (by exact hv3.below hB)).mono ?_
  rintro e wt3 ⟨t3, tf3, rfl, tr3, tg3, hb⟩
  replace X0 := cells_later X0 hlX0 hb
  replace X2 := cells_later X2 hlX2 hb
  replace X3 := cells_later X3 hlX3 hb
  replace hZ0 := cells_later hZ0 hlhZ0 hb
  replace hZ2 := cells_later hZ2 hlhZ2 hb
  replace tr0 := tr0.below hb
  replace tr1 := tr1.below hb
  replace tr2 := tr2.below hb
  replace hB := hB.trans (hb.mono hz0)
  have hzn := hb.size
  replace hlX0 := Nat.lt_of_lt_of_le hlX0 hzn
  replace hlX2 := Nat.lt_of_lt_of_le hlX2 hzn
  replace hlX3 := Nat.lt_of_lt_of_le hlX3 hzn
  replace hlhZ0 := Nat.lt_of_lt_of_le hlhZ0 hzn
  replace hlhZ2 := Nat.lt_of_lt_of_le hlhZ2 hzn
  replace hz0 := Nat.le_trans hz0 hzn
  clear hb hzn
  have tr3' := tr3
  obtain ⟨a1T3, c1T3, f1T3, rfl, _, _, _⟩ := Tm.open tr3'
  have hZ3 := cell_new wt3 #[.string x3.name, .slice a1T3 x3.kids.length c1T3] 28
  have hb := below_alloc wt3 (.cells #[.string x3.name, .slice a1T3 x3.kids.length c1T3] 28)
  have hzz : (wt3.alloc (.cells #[.string x3.name, .slice a1T3 x3.kids.length c1T3] 28)).heap.size = wt3.heap.size + 1 := by simp
  replace X0 := cells_later X0 hlX0 hb
  replace X2 := cells_later X2 hlX2 hb
  replace X3 := cells_later X3 hlX3 hb
  replace hZ0 := cells_later hZ0 hlhZ0 hb
  replace hZ2 := cells_later hZ2 hlhZ2 hb
  replace tr0 := tr0.below hb
  replace tr1 := tr1.below hb
  replace tr2 := tr2.below hb
  replace tr3 := tr3.below hb
  replace hB := hB.trans (hb.mono hz0)
  have hzn := hb.size
  replace hlX0 := Nat.lt_of_lt_of_le hlX0 hzn
  replace hlX2 := Nat.lt_of_lt_of_le hlX2 hzn
  replace hlX3 := Nat.lt_of_lt_of_le hlX3 hzn
  replace hlhZ0 := Nat.lt_of_lt_of_le hlhZ0 hzn
  replace hlhZ2 := Nat.lt_of_lt_of_le hlhZ2 hzn
  replace hz0 := Nat.le_trans hz0 hzn
  clear hb hzn
  have hlhZ3 : wt3.heap.size < (wt3.alloc (.cells #[.string x3.name, .slice a1T3 x3.kids.length c1T3] 28)).heap.size := by simp
  go_wp2_with fail
  refine (sameIs_any x0 x1 x2 x3 _ _ _ _ _ _ _ _ _ (more_big2 hbig1 hbig2 hbig3) (by omega) (by exact tr0) (by exact tr1) (by exact tr2) (by exact tr3)).mono ?_
  rintro e wg ⟨rfl, hb⟩
  replace X0 := cells_later X0 hlX0 hb
  replace X2 := cells_later X2 hlX2 hb
  replace X3 := cells_later X3 hlX3 hb
  replace hZ0 := cells_later hZ0 hlhZ0 hb
  replace hZ2 := cells_later hZ2 hlhZ2 hb
  replace hZ3 := cells_later hZ3 hlhZ3 hb
  replace tr0 := tr0.below hb
  replace tr1 := tr1.below hb
  replace tr2 := tr2.below hb
  replace tr3 := tr3.below hb
  replace hB := hB.trans (hb.mono hz0)
  have hzn := hb.size
  replace hlX0 := Nat.lt_of_lt_of_le hlX0 hzn
  replace hlX2 := Nat.lt_of_lt_of_le hlX2 hzn
  replace hlX3 := Nat.lt_of_lt_of_le hlX3 hzn
  replace hlhZ0 := Nat.lt_of_lt_of_le hlhZ0 hzn
  replace hlhZ2 := Nat.lt_of_lt_of_le hlhZ2 hzn
  replace hlhZ3 := Nat.lt_of_lt_of_le hlhZ3 hzn
  replace hz0 := Nat.le_trans hz0 hzn
  clear hb hzn
  cases hres : sameIsB x0 x1 x2 x3
  all_goals
    go_wp2_with fail
    have C0_0 := X0 0
    have C1_0 := X2 0
    have C1_1 := X2 1
    have C2_0 := X3 0
    have C2_1 := X3 1
    have C3_0 := hZ0 0
    have C4_0 := hZ2 0
    have C4_1 := hZ2 1
    have C5_0 := hZ3 0
    have C5_1 := hZ3 1
    simp only [List.getElem?_toArray, List.getElem?_cons_zero, List.getElem?_cons_succ] at C0_0 C1_0 C1_1 C2_0 C2_1 C3_0 C4_0 C4_1 C5_0 C5_1
    go_region_held3 (fun W => W.cell? ⟨w.heap.size, 0, none⟩ = some (.slice a0A0 x0.syms.length c0A0) ∧ W.cell? ⟨w.heap.size + 1, 0, none⟩ = some (.string x2.name) ∧ W.cell? ⟨w.heap.size + 1, 1, none⟩ = some (.slice a1A2 x2.kids.length c1A2) ∧ W.cell? ⟨w.heap.size + 1 + 1, 0, none⟩ = some (.string x3.name) ∧ W.cell? ⟨w.heap.size + 1 + 1, 1, none⟩ = some (.slice a1A3 x3.kids.length c1A3) ∧ W.cell? ⟨wt0.heap.size, 0, none⟩ = some (.slice a0T0 x0.syms.length c0T0) ∧ W.cell? ⟨wt2.heap.size, 0, none⟩ = some (.string x2.name) ∧ W.cell? ⟨wt2.heap.size, 1, none⟩ = some (.slice a1T2 x2.kids.length c1T2) ∧ W.cell? ⟨wt3.heap.size, 0, none⟩ = some (.string x3.name) ∧ W.cell? ⟨wt3.heap.size, 1, none⟩ = some (.slice a1T3 x3.kids.length c1T3) ∧ Below w.heap.size w W)
      (first | exact ⟨C0_0, C1_0, C1_1, C2_0, C2_1, C3_0, C4_0, C4_1, C5_0, C5_1, hB.drew⟩ | (refine ⟨?_, ?_, ?_, ?_, ?_, ?_, ?_, ?_, ?_, ?_, (hB).trans ((below_undrew' hbE00).mono (hB).size)⟩ <;> (refine (cell_keep ?_ (below_undrew' hbE00)); assumption)) | (refine (cell_keep ?_ (below_undrew' hbE00)); assumption) | exact (hB).trans ((below_undrew' hbE00).mono (hB).size) | (refine ⟨?_, ?_, ?_, ?_, ?_, ?_, ?_, ?_, ?_, ?_, ((hB).trans ((below_undrew' hbE00).mono (hB).size)).trans (hbE01.mono ((hB).trans ((below_undrew' hbE00).mono (hB).size)).size)⟩ <;> (refine (cell_keep (cell_keep ?_ (below_undrew' hbE00)) hbE01); assumption)) | (refine (cell_keep (cell_keep ?_ (below_undrew' hbE00)) hbE01); assumption) | exact ((hB).trans ((below_undrew' hbE00).mono (hB).size)).trans (hbE01.mono ((hB).trans ((below_undrew' hbE00).mono (hB).size)).size))
      (first | (go_at_call 31; (with_reducible refine (toSig_x x0 _ _ _ hbig0 (by exact hv0.below (hB.drew))).mono ?_); rintro e wE00 ⟨u0, uf0, rfl, ur0, ug0, hbE00⟩) | (go_at_call 35; (with_reducible refine (eqSig_x x0 _ _ _ _ _ (by exact tr0.below ((below_undrew' hbE00))) (by exact ur0)).mono ?_); rintro e wE01 ⟨rfl, hbE01⟩))
    have hb := below_undrew' hbE00
    clear hbE00
    replace X0 := cells_later X0 hlX0 hb
    replace X2 := cells_later X2 hlX2 hb
    replace X3 := cells_later X3 hlX3 hb
    replace hZ0 := cells_later hZ0 hlhZ0 hb
    replace hZ2 := cells_later hZ2 hlhZ2 hb
    replace hZ3 := cells_later hZ3 hlhZ3 hb
    replace tr0 := tr0.below hb
    replace tr1 := tr1.below hb
    replace tr2 := tr2.below hb
    replace tr3 := tr3.below hb
    replace hB := hB.trans (hb.mono hz0)
    have hzn := hb.size
    replace hlX0 := Nat.lt_of_lt_of_le hlX0 hzn
    replace hlX2 := Nat.lt_of_lt_of_le hlX2 hzn
    replace hlX3 := Nat.lt_of_lt_of_le hlX3 hzn
    replace hlhZ0 := Nat.lt_of_lt_of_le hlhZ0 hzn
    replace hlhZ2 := Nat.lt_of_lt_of_le hlhZ2 hzn
    replace hlhZ3 := Nat.lt_of_lt_of_le hlhZ3 hzn
    replace hz0 := Nat.le_trans hz0 hzn
    clear hb hzn
    have hb := hbE01
    clear hbE01
    replace X0 := cells_later X0 hlX0 hb
    replace X2 := cells_later X2 hlX2 hb
    replace X3 := cells_later X3 hlX3 hb
    replace hZ0 := cells_later hZ0 hlhZ0 hb
    replace hZ2 := cells_later hZ2 hlhZ2 hb
    replace hZ3 := cells_later hZ3 hlhZ3 hb
    replace tr0 := tr0.below hb
    replace tr1 := tr1.below hb
    replace tr2 := tr2.below hb
    replace tr3 := tr3.below hb
    replace hB := hB.trans (hb.mono hz0)
    have hzn := hb.size
    replace hlX0 := Nat.lt_of_lt_of_le hlX0 hzn
    replace hlX2 := Nat.lt_of_lt_of_le hlX2 hzn
    replace hlX3 := Nat.lt_of_lt_of_le hlX3 hzn
    replace hlhZ0 := Nat.lt_of_lt_of_le hlhZ0 hzn
    replace hlhZ2 := Nat.lt_of_lt_of_le hlhZ2 hzn
    replace hlhZ3 := Nat.lt_of_lt_of_le hlhZ3 hzn
    replace hz0 := Nat.le_trans hz0 hzn
    clear hb hzn
    clear C0_0 C1_0 C1_1 C2_0 C2_1 C3_0 C4_0 C4_1 C5_0 C5_1
    go_wp2_with fail
    refine (toEqS_x x1 _ _ _ hbig1 (by exact hv1.below hB)).mono ?_
    rintro e wE10 ⟨u1, uf1, rfl, ur1, ug1, hb⟩
    replace X0 := cells_later X0 hlX0 hb
    replace X2 := cells_later X2 hlX2 hb
    replace X3 := cells_later X3 hlX3 hb
    replace hZ0 := cells_later hZ0 hlhZ0 hb
    replace hZ2 := cells_later hZ2 hlhZ2 hb
    replace hZ3 := cells_later hZ3 hlhZ3 hb
    replace tr0 := tr0.below hb
    replace tr1 := tr1.below hb
    replace tr2 := tr2.below hb
    replace tr3 := tr3.below hb
    replace hB := hB.trans (hb.mono hz0)
    have hzn := hb.size
    replace hlX0 := Nat.lt_of_lt_of_le hlX0 hzn
    replace hlX2 := Nat.lt_of_lt_of_le hlX2 hzn
    replace hlX3 := Nat.lt_of_lt_of_le hlX3 hzn
    replace hlhZ0 := Nat.lt_of_lt_of_le hlhZ0 hzn
    replace hlhZ2 := Nat.lt_of_lt_of_le hlhZ2 hzn
    replace hlhZ3 := Nat.lt_of_lt_of_le hlhZ3 hzn
    replace hz0 := Nat.le_trans hz0 hzn
    clear hb hzn
    go_wp2_with fail
    refine (eqEqS_x x1 _ _ _ _ _ (by exact tr1) (by exact ur1)).mono ?_
    rintro e wE11 ⟨rfl, hb⟩
    replace X0 := cells_later X0 hlX0 hb
    replace X2 := cells_later X2 hlX2 hb
    replace X3 := cells_later X3 hlX3 hb
    replace hZ0 := cells_later hZ0 hlhZ0 hb
    replace hZ2 := cells_later hZ2 hlhZ2 hb
    replace hZ3 := cells_later hZ3 hlhZ3 hb
    replace tr0 := tr0.below hb
    replace tr1 := tr1.below hb
    replace tr2 := tr2.below hb
    replace tr3 := tr3.below hb
    replace ur1 := ur1.below hb
    replace hB := hB.trans (hb.mono hz0)
    have hzn := hb.size
    replace hlX0 := Nat.lt_of_lt_of_le hlX0 hzn
    replace hlX2 := Nat.lt_of_lt_of_le hlX2 hzn
    replace hlX3 := Nat.lt_of_lt_of_le hlX3 hzn
    replace hlhZ0 := Nat.lt_of_lt_of_le hlhZ0 hzn
    replace hlhZ2 := Nat.lt_of_lt_of_le hlhZ2 hzn
    replace hlhZ3 := Nat.lt_of_lt_of_le hlhZ3 hzn
    replace hz0 := Nat.le_trans hz0 hzn
    clear hb hzn
    go_wp2_with fail
    have C0_0 := X0 0
    have C1_0 := X2 0
    have C1_1 := X2 1
    have C2_0 := X3 0
    have C2_1 := X3 1
    have C3_0 := hZ0 0
    have C4_0 := hZ2 0
    have C4_1 := hZ2 1
    have C5_0 := hZ3 0
    have C5_1 := hZ3 1
    simp only [List.getElem?_toArray, List.getElem?_cons_zero, List.getElem?_cons_succ] at C0_0 C1_0 C1_1 C2_0 C2_1 C3_0 C4_0 C4_1 C5_0 C5_1
    go_region_held3 (fun W => W.cell? ⟨w.heap.size, 0, none⟩ = some (.slice a0A0 x0.syms.length c0A0) ∧ W.cell? ⟨w.heap.size + 1, 0, none⟩ = some (.string x2.name) ∧ W.cell? ⟨w.heap.size + 1, 1, none⟩ = some (.slice a1A2 x2.kids.length c1A2) ∧ W.cell? ⟨w.heap.size + 1 + 1, 0, none⟩ = some (.string x3.name) ∧ W.cell? ⟨w.heap.size + 1 + 1, 1, none⟩ = some (.slice a1A3 x3.kids.length c1A3) ∧ W.cell? ⟨wt0.heap.size, 0, none⟩ = some (.slice a0T0 x0.syms.length c0T0) ∧ W.cell? ⟨wt2.heap.size, 0, none⟩ = some (.string x2.name) ∧ W.cell? ⟨wt2.heap.size, 1, none⟩ = some (.slice a1T2 x2.kids.length c1T2) ∧ W.cell? ⟨wt3.heap.size, 0, none⟩ = some (.string x3.name) ∧ W.cell? ⟨wt3.heap.size, 1, none⟩ = some (.slice a1T3 x3.kids.length c1T3) ∧ Below w.heap.size w W)
      (first | exact ⟨C0_0, C1_0, C1_1, C2_0, C2_1, C3_0, C4_0, C4_1, C5_0, C5_1, hB.drew⟩ | (refine ⟨?_, ?_, ?_, ?_, ?_, ?_, ?_, ?_, ?_, ?_, (hB).trans ((below_undrew' hbE20).mono (hB).size)⟩ <;> (refine (cell_keep ?_ (below_undrew' hbE20)); assumption)) | (refine (cell_keep ?_ (below_undrew' hbE20)); assumption) | exact (hB).trans ((below_undrew' hbE20).mono (hB).size) | (refine ⟨?_, ?_, ?_, ?_, ?_, ?_, ?_, ?_, ?_, ?_, ((hB).trans ((below_undrew' hbE20).mono (hB).size)).trans (hbE21.mono ((hB).trans ((below_undrew' hbE20).mono (hB).size)).size)⟩ <;> (refine (cell_keep (cell_keep ?_ (below_undrew' hbE20)) hbE21); assumption)) | (refine (cell_keep (cell_keep ?_ (below_undrew' hbE20)) hbE21); assumption) | exact ((hB).trans ((below_undrew' hbE20).mono (hB).size)).trans (hbE21.mono ((hB).trans ((below_undrew' hbE20).mono (hB).size)).size))
      (first | (go_at_call 33; (with_reducible refine (toTerm_x x2 _ _ _ hbig2 (by exact hv2.below (hB.drew))).mono ?_); rintro e wE20 ⟨u2, uf2, rfl, ur2, ug2, hbE20⟩) | (go_at_call 37; (with_reducible refine (eqTerm_x x2 _ _ _ _ _ (by exact tr2.below ((below_undrew' hbE20))) (by exact ur2)).mono ?_); rintro e wE21 ⟨rfl, hbE21⟩))
    have hb := below_undrew' hbE20
    clear hbE20
    replace X0 := cells_later X0 hlX0 hb
    replace X2 := cells_later X2 hlX2 hb
    replace X3 := cells_later X3 hlX3 hb
    replace hZ0 := cells_later hZ0 hlhZ0 hb
    replace hZ2 := cells_later hZ2 hlhZ2 hb
    replace hZ3 := cells_later hZ3 hlhZ3 hb
    replace tr0 := tr0.below hb
    replace tr1 := tr1.below hb
    replace tr2 := tr2.below hb
    replace tr3 := tr3.below hb
    replace hB := hB.trans (hb.mono hz0)
    have hzn := hb.size
    replace hlX0 := Nat.lt_of_lt_of_le hlX0 hzn
    replace hlX2 := Nat.lt_of_lt_of_le hlX2 hzn
    replace hlX3 := Nat.lt_of_lt_of_le hlX3 hzn
    replace hlhZ0 := Nat.lt_of_lt_of_le hlhZ0 hzn
    replace hlhZ2 := Nat.lt_of_lt_of_le hlhZ2 hzn
    replace hlhZ3 := Nat.lt_of_lt_of_le hlhZ3 hzn
    replace hz0 := Nat.le_trans hz0 hzn
    clear hb hzn
    have hb := hbE21
    clear hbE21
    replace X0 := cells_later X0 hlX0 hb
    replace X2 := cells_later X2 hlX2 hb
    replace X3 := cells_later X3 hlX3 hb
    replace hZ0 := cells_later hZ0 hlhZ0 hb
    replace hZ2 := cells_later hZ2 hlhZ2 hb
    replace hZ3 := cells_later hZ3 hlhZ3 hb
    replace tr0 := tr0.below hb
    replace tr1 := tr1.below hb
    replace tr2 := tr2.below hb
    replace tr3 := tr3.below hb
    replace hB := hB.trans (hb.mono hz0)
    have hzn := hb.size
    replace hlX0 := Nat.lt_of_lt_of_le hlX0 hzn
    replace hlX2 := Nat.lt_of_lt_of_le hlX2 hzn
    replace hlX3 := Nat.lt_of_lt_of_le hlX3 hzn
    replace hlhZ0 := Nat.lt_of_lt_of_le hlhZ0 hzn
    replace hlhZ2 := Nat.lt_of_lt_of_le hlhZ2 hzn
    replace hlhZ3 := Nat.lt_of_lt_of_le hlhZ3 hzn
    replace hz0 := Nat.le_trans hz0 hzn
    clear hb hzn
    clear C0_0 C1_0 C1_1 C2_0 C2_1 C3_0 C4_0 C4_1 C5_0 C5_1
    go_wp2_with fail
    have C0_0 := X0 0
    have C1_0 := X2 0
    have C1_1 := X2 1
    have C2_0 := X3 0
    have C2_1 := X3 1
    have C3_0 := hZ0 0
    have C4_0 := hZ2 0
    have C4_1 := hZ2 1
    have C5_0 := hZ3 0
    have C5_1 := hZ3 1
    simp only [List.getElem?_toArray, List.getElem?_cons_zero, List.getElem?_cons_succ] at C0_0 C1_0 C1_1 C2_0 C2_1 C3_0 C4_0 C4_1 C5_0 C5_1
    go_region_held3 (fun W => W.cell? ⟨w.heap.size, 0, none⟩ = some (.slice a0A0 x0.syms.length c0A0) ∧ W.cell? ⟨w.heap.size + 1, 0, none⟩ = some (.string x2.name) ∧ W.cell? ⟨w.heap.size + 1, 1, none⟩ = some (.slice a1A2 x2.kids.length c1A2) ∧ W.cell? ⟨w.heap.size + 1 + 1, 0, none⟩ = some (.string x3.name) ∧ W.cell? ⟨w.heap.size + 1 + 1, 1, none⟩ = some (.slice a1A3 x3.kids.length c1A3) ∧ W.cell? ⟨wt0.heap.size, 0, none⟩ = some (.slice a0T0 x0.syms.length c0T0) ∧ W.cell? ⟨wt2.heap.size, 0, none⟩ = some (.string x2.name) ∧ W.cell? ⟨wt2.heap.size, 1, none⟩ = some (.slice a1T2 x2.kids.length c1T2) ∧ W.cell? ⟨wt3.heap.size, 0, none⟩ = some (.string x3.name) ∧ W.cell? ⟨wt3.heap.size, 1, none⟩ = some (.slice a1T3 x3.kids.length c1T3) ∧ Below w.heap.size w W)
      (first | exact ⟨C0_0, C1_0, C1_1, C2_0, C2_1, C3_0, C4_0, C4_1, C5_0, C5_1, hB.drew⟩ | (refine ⟨?_, ?_, ?_, ?_, ?_, ?_, ?_, ?_, ?_, ?_, (hB).trans ((below_undrew' hbE30).mono (hB).size)⟩ <;> (refine (cell_keep ?_ (below_undrew' hbE30)); assumption)) | (refine (cell_keep ?_ (below_undrew' hbE30)); assumption) | exact (hB).trans ((below_undrew' hbE30).mono (hB).size) | (refine ⟨?_, ?_, ?_, ?_, ?_, ?_, ?_, ?_, ?_, ?_, ((hB).trans ((below_undrew' hbE30).mono (hB).size)).trans (hbE31.mono ((hB).trans ((below_undrew' hbE30).mono (hB).size)).size)⟩ <;> (refine (cell_keep (cell_keep ?_ (below_undrew' hbE30)) hbE31); assumption)) | (refine (cell_keep (cell_keep ?_ (below_undrew' hbE30)) hbE31); assumption) | exact ((hB).trans ((below_undrew' hbE30).mono (hB).size)).trans (hbE31.mono ((hB).trans ((below_undrew' hbE30).mono (hB).size)).size))
      (first | (go_at_call 33; (with_reducible refine (toTerm_x x3 _ _ _ hbig3 (by exact hv3.below (hB.drew))).mono ?_); rintro e wE30 ⟨u3, uf3, rfl, ur3, ug3, hbE30⟩) | (go_at_call 37; (with_reducible refine (eqTerm_x x3 _ _ _ _ _ (by exact tr3.below ((below_undrew' hbE30))) (by exact ur3)).mono ?_); rintro e wE31 ⟨rfl, hbE31⟩))
    have hb := below_undrew' hbE30
    clear hbE30
    replace X0 := cells_later X0 hlX0 hb
    replace X2 := cells_later X2 hlX2 hb
    replace X3 := cells_later X3 hlX3 hb
    replace hZ0 := cells_later hZ0 hlhZ0 hb
    replace hZ2 := cells_later hZ2 hlhZ2 hb
    replace hZ3 := cells_later hZ3 hlhZ3 hb
    replace tr0 := tr0.below hb
    replace tr1 := tr1.below hb
    replace tr2 := tr2.below hb
    replace tr3 := tr3.below hb
    replace hB := hB.trans (hb.mono hz0)
    have hzn := hb.size
    replace hlX0 := Nat.lt_of_lt_of_le hlX0 hzn
    replace hlX2 := Nat.lt_of_lt_of_le hlX2 hzn
    replace hlX3 := Nat.lt_of_lt_of_le hlX3 hzn
    replace hlhZ0 := Nat.lt_of_lt_of_le hlhZ0 hzn
    replace hlhZ2 := Nat.lt_of_lt_of_le hlhZ2 hzn
    replace hlhZ3 := Nat.lt_of_lt_of_le hlhZ3 hzn
    replace hz0 := Nat.le_trans hz0 hzn
    clear hb hzn
    have hb := hbE31
    clear hbE31
    replace X0 := cells_later X0 hlX0 hb
    replace X2 := cells_later X2 hlX2 hb
    replace X3 := cells_later X3 hlX3 hb
    replace hZ0 := cells_later hZ0 hlhZ0 hb
    replace hZ2 := cells_later hZ2 hlhZ2 hb
    replace hZ3 := cells_later hZ3 hlhZ3 hb
    replace tr0 := tr0.below hb
    replace tr1 := tr1.below hb
    replace tr2 := tr2.below hb
    replace tr3 := tr3.below hb
    replace hB := hB.trans (hb.mono hz0)
    have hzn := hb.size
    replace hlX0 := Nat.lt_of_lt_of_le hlX0 hzn
    replace hlX2 := Nat.lt_of_lt_of_le hlX2 hzn
    replace hlX3 := Nat.lt_of_lt_of_le hlX3 hzn
    replace hlhZ0 := Nat.lt_of_lt_of_le hlhZ0 hzn
    replace hlhZ2 := Nat.lt_of_lt_of_le hlhZ2 hzn
    replace hlhZ3 := Nat.lt_of_lt_of_le hlhZ3 hzn
    replace hz0 := Nat.le_trans hz0 hzn
    clear hb hzn
    clear C0_0 C1_0 C1_1 C2_0 C2_1 C3_0 C4_0 C4_1 C5_0 C5_1
    go_wp2_with fail
    go_ret
    exact ⟨rfl, hB⟩
end Go.Proofs.Ytgokggnmacjafaa
