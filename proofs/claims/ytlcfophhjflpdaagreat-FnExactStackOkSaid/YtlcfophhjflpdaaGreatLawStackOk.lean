/- The law FnExactStackOk returns true. -/
import Derived.Deep.RegionHeld3
import Derived.Test.YtlcfophhjflpdaaGreatStkO
import Derived.Test.YtlcfophhjflpdaaGreatExSz
import Derived.Test.YtlcfophhjflpdaaGreatExTo
import Derived.Test.YtlcfophhjflpdaaGreatExEq
namespace Go.Proofs.YtlcfophhjflpdaaGreat
open Go Go.RowKit
set_option linter.unusedVariables false
set_option linter.unusedSimpArgs false
set_option maxHeartbeats 2000000 in
theorem exStackOk_walk (x0 : Stk) (v0 : List Value) (f0 : List Nat) (w : World) (hv0 : RdVs w x0.cd v0 f0) :
    Calls Tryz.prog 5 #[.agg v0.toArray] w fun e w' => e = .returned (.bool true) ∧ Below w.heap.size w w' := by
  obtain ⟨a0A0, c0A0, f0A0, a1A0, c1A0, f1A0, rfl, _, _, _⟩ := Stk.open hv0
  go_enter Tryz.func5, Tryz.ntmps5
  go_wp2_with fail
  refine (szStack_x x0 _ _ _ _ (by omega) (by omega) (by exact hv0.below (below_alloc _ _))).mono ?_
  rintro e w1 ⟨⟨r0, rfl, hr0⟩, hb⟩
  obtain ⟨X0, hz, hB⟩ := box1 (w := w) (wr := w1) (cs := #[.slice a0A0 x0.sig.syms.length c0A0, .slice a1A0 x0.levels.length c1A0]) (T := 64) (below_size hb (by simp))
  have hz0 := hB.size
  have hlX0 : w.heap.size < w1.heap.size := by omega
  clear hb
  rcases hr0 with ⟨hs0, rfl⟩ | ⟨hs0, rfl⟩
  rotate_left
  · go_wp2_with fail
    go_ret
    exact ⟨rfl, hB⟩
  go_wp2_with fail
  have hbig0 : wtV x0.cd ≤ 1048576 := by omega
  clear hs0
  refine (toStack_x x0 _ _ _ hbig0 (by exact hv0.below hB)).mono ?_
  rintro e wS0 ⟨s0, sf0, rfl, sr0, sg0, hb⟩
  replace X0 := cells_later X0 hlX0 hb
  replace hB := hB.trans (hb.mono hz0)
  have hzn := hb.size
  replace hlX0 := Nat.lt_of_lt_of_le hlX0 hzn
  replace hz0 := Nat.le_trans hz0 hzn
  clear hb hzn
  go_wp2_with fail
  refine (stackOkS_any x0 _ _ _ hbig0 (by exact sr0)).mono ?_
  rintro e wS1 ⟨rfl, hb⟩
  replace X0 := cells_later X0 hlX0 hb
  replace sr0 := sr0.below hb
  replace hB := hB.trans (hb.mono hz0)
  have hzn := hb.size
  replace hlX0 := Nat.lt_of_lt_of_le hlX0 hzn
  replace hz0 := Nat.le_trans hz0 hzn
  clear hb hzn
  go_wp2_with fail
  refine (toStack_x x0 _ _ _ hbig0 (by exact hv0.below hB)).mono ?_
  rintro e wt0 ⟨t0, tf0, rfl, tr0, tg0, hb⟩
  replace X0 := cells_later X0 hlX0 hb
  replace hB := hB.trans (hb.mono hz0)
  have hzn := hb.size
  replace hlX0 := Nat.lt_of_lt_of_le hlX0 hzn
  replace hz0 := Nat.le_trans hz0 hzn
  clear hb hzn
  have tr0' := tr0
  obtain ⟨a0T0, c0T0, f0T0, a1T0, c1T0, f1T0, rfl, _, _, _⟩ := Stk.open tr0'
  have hZ0 := cell_new wt0 #[.slice a0T0 x0.sig.syms.length c0T0, .slice a1T0 x0.levels.length c1T0] 69
  have hb := below_alloc wt0 (.cells #[.slice a0T0 x0.sig.syms.length c0T0, .slice a1T0 x0.levels.length c1T0] 69)
  have hzz : (wt0.alloc (.cells #[.slice a0T0 x0.sig.syms.length c0T0, .slice a1T0 x0.levels.length c1T0] 69)).heap.size = wt0.heap.size + 1 := by simp
  replace X0 := cells_later X0 hlX0 hb
  replace tr0 := tr0.below hb
  replace hB := hB.trans (hb.mono hz0)
  have hzn := hb.size
  replace hlX0 := Nat.lt_of_lt_of_le hlX0 hzn
  replace hz0 := Nat.le_trans hz0 hzn
  clear hb hzn
  have hlhZ0 : wt0.heap.size < (wt0.alloc (.cells #[.slice a0T0 x0.sig.syms.length c0T0, .slice a1T0 x0.levels.length c1T0] 69)).heap.size := by simp
  go_wp2_with fail
  refine (stackOk_any x0 _ _ _ hbig0 (by exact tr0)).mono ?_
  rintro e wg ⟨rfl, hb⟩
  replace X0 := cells_later X0 hlX0 hb
  replace hZ0 := cells_later hZ0 hlhZ0 hb
  replace tr0 := tr0.below hb
  replace hB := hB.trans (hb.mono hz0)
  have hzn := hb.size
  replace hlX0 := Nat.lt_of_lt_of_le hlX0 hzn
  replace hlhZ0 := Nat.lt_of_lt_of_le hlhZ0 hzn
  replace hz0 := Nat.le_trans hz0 hzn
  clear hb hzn
  cases hres : Stk.okK x0
  all_goals
    go_wp2_with fail
    have C0_0 := X0 0
    have C0_1 := X0 1
    have C1_0 := hZ0 0
    have C1_1 := hZ0 1
    simp only [List.getElem?_toArray, List.getElem?_cons_zero, List.getElem?_cons_succ] at C0_0 C0_1 C1_0 C1_1
    go_region_held3 (fun W => W.cell? ⟨w.heap.size, 0, none⟩ = some (.slice a0A0 x0.sig.syms.length c0A0) ∧ W.cell? ⟨w.heap.size, 1, none⟩ = some (.slice a1A0 x0.levels.length c1A0) ∧ W.cell? ⟨wt0.heap.size, 0, none⟩ = some (.slice a0T0 x0.sig.syms.length c0T0) ∧ W.cell? ⟨wt0.heap.size, 1, none⟩ = some (.slice a1T0 x0.levels.length c1T0) ∧ Below w.heap.size w W)
      (first | exact ⟨C0_0, C0_1, C1_0, C1_1, hB.drew⟩ | (refine ⟨?_, ?_, ?_, ?_, (hB).trans ((below_undrew' hbE00).mono (hB).size)⟩ <;> (refine (cell_keep ?_ (below_undrew' hbE00)); assumption)) | (refine (cell_keep ?_ (below_undrew' hbE00)); assumption) | exact (hB).trans ((below_undrew' hbE00).mono (hB).size) | (refine ⟨?_, ?_, ?_, ?_, ((hB).trans ((below_undrew' hbE00).mono (hB).size)).trans (hbE01.mono ((hB).trans ((below_undrew' hbE00).mono (hB).size)).size)⟩ <;> (refine (cell_keep (cell_keep ?_ (below_undrew' hbE00)) hbE01); assumption)) | (refine (cell_keep (cell_keep ?_ (below_undrew' hbE00)) hbE01); assumption) | exact ((hB).trans ((below_undrew' hbE00).mono (hB).size)).trans (hbE01.mono ((hB).trans ((below_undrew' hbE00).mono (hB).size)).size))
      (first | (go_at_call 25; (with_reducible refine (toStack_x x0 _ _ _ hbig0 (by exact hv0.below (hB.drew))).mono ?_); rintro e wE00 ⟨u0, uf0, rfl, ur0, ug0, hbE00⟩) | (go_at_call 27; (with_reducible refine (eqStack_x x0 _ _ _ _ _ (by exact tr0.below ((below_undrew' hbE00))) (by exact ur0)).mono ?_); rintro e wE01 ⟨rfl, hbE01⟩))
    have hb := below_undrew' hbE00
    clear hbE00
    replace X0 := cells_later X0 hlX0 hb
    replace hZ0 := cells_later hZ0 hlhZ0 hb
    replace tr0 := tr0.below hb
    replace hB := hB.trans (hb.mono hz0)
    have hzn := hb.size
    replace hlX0 := Nat.lt_of_lt_of_le hlX0 hzn
    replace hlhZ0 := Nat.lt_of_lt_of_le hlhZ0 hzn
    replace hz0 := Nat.le_trans hz0 hzn
    clear hb hzn
    have hb := hbE01
    clear hbE01
    replace X0 := cells_later X0 hlX0 hb
    replace hZ0 := cells_later hZ0 hlhZ0 hb
    replace tr0 := tr0.below hb
    replace hB := hB.trans (hb.mono hz0)
    have hzn := hb.size
    replace hlX0 := Nat.lt_of_lt_of_le hlX0 hzn
    replace hlhZ0 := Nat.lt_of_lt_of_le hlhZ0 hzn
    replace hz0 := Nat.le_trans hz0 hzn
    clear hb hzn
    clear C0_0 C0_1 C1_0 C1_1
    go_wp2_with fail
    go_ret
    exact ⟨rfl, hB⟩
end Go.Proofs.YtlcfophhjflpdaaGreat
