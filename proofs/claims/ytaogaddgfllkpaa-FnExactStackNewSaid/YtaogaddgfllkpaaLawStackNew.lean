/- The law FnExactStackNew returns true. -/
import Derived.Deep.RegionHeld3
import Derived.Test.YtaogaddgfllkpaaStackN2
import Derived.Test.YtaogaddgfllkpaaCnt
import Derived.Test.YtaogaddgfllkpaaExSz
import Derived.Test.YtaogaddgfllkpaaExEq
namespace Go.Proofs.Ytaogaddgfllkpaa
open Go Go.RowKit
set_option linter.unusedVariables false
set_option linter.unusedSimpArgs false
theorem stkNew_cnt (s : Sg) : cntT (stkNew s).cd ≤ 16 * wtV s.cd := by
  unfold stkNew; split
  · rw [Stk.cd, cntT_append]; have := Sg.cdT_cnt s; simp only [cntT, List.map_cons, List.map_nil, fmsCd, cntR, cntV, cnt]; omega
  · simp [Stk.cd, Sg.cd, cntT, cntR]
set_option maxHeartbeats 4000000 in
theorem exStackNew_walk (x0 : Sg) (v0 : List Value) (f0 : List Nat) (w : World) (hv0 : RdVs w x0.cd v0 f0) :
    Calls Try.prog 9 #[.agg v0.toArray] w fun e w' => e = .returned (.bool true) ∧ Below w.heap.size w w' := by
  obtain ⟨a0A0, c0A0, f0A0, rfl, _, _⟩ := Sg.open hv0
  go_enter Try.func9, Try.ntmps9
  go_wp2_with fail
  refine (szSig_x x0 _ _ _ _ (by omega) (by omega) (by exact hv0.below (below_alloc _ _))).mono ?_
  rintro e w1 ⟨⟨r0, rfl, hr0⟩, hb⟩
  obtain ⟨X0, hz, hB⟩ := box1 (w := w) (wr := w1) (cs := #[.slice a0A0 x0.syms.length c0A0]) (T := 69) (below_size hb (by simp))
  have hz0 := hB.size
  have hlX0 : w.heap.size < w1.heap.size := by omega
  clear hb
  rcases hr0 with ⟨hs0, rfl⟩ | ⟨hs0, rfl⟩
  rotate_left
  · go_wp2_with fail
    go_ret
    exact ⟨rfl, hB⟩
  go_wp2_with fail
  have hbig0 : wtV x0.cd ≤ 1048576 := by omega
  clear hs0
  have hrb : cntT (stkNew x0).cd ≤ 1000000000000 := (by have := stkNew_cnt x0; omega)
  have o_X0_S := hlX0
  have base_S := hz0
  refine (toSig_x x0 _ _ _ hbig0 (by exact hv0.below hB)).mono ?_
  rintro e ws0 ⟨s0, sf0, rfl, sr0, sg0, hb⟩
  replace X0 := cells_later X0 hlX0 hb
  replace hB := hB.trans (hb.mono hz0)
  have hzn := hb.size
  replace hlX0 := Nat.lt_of_lt_of_le hlX0 hzn
  replace hz0 := Nat.le_trans hz0 hzn
  clear hb hzn
  go_wp2_with fail
  refine (stackNewS_any x0 _ _ _ hbig0 (by exact sr0)).mono ?_
  rintro e wS ⟨vS, f_S, rfl, r_S, fr_S, hb⟩
  have hi_S : ∀ b ∈ f_S, b < wS.heap.size := r_S.lt
  replace X0 := cells_later X0 hlX0 hb
  replace hB := hB.trans (hb.mono hz0)
  have hzn := hb.size
  replace hlX0 := Nat.lt_of_lt_of_le hlX0 hzn
  replace hz0 := Nat.le_trans hz0 hzn
  clear hb hzn
  have hh_S : wS.heap.size ≤ wS.heap.size := Nat.le_refl _
  have r_S' := r_S
  obtain ⟨a0S, c0S, f0S, a1S, c1S, f1S, rfl, _, _, _⟩ := Stk.open r_S'
  have ZS := cell_new wS #[.slice a0S (stkNew x0).sig.syms.length c0S, .slice a1S (stkNew x0).levels.length c1S] 80
  have o_S_ZS := hh_S
  have hb := below_alloc wS (.cells #[.slice a0S (stkNew x0).sig.syms.length c0S, .slice a1S (stkNew x0).levels.length c1S] 80)
  have hzz : (wS.alloc (.cells #[.slice a0S (stkNew x0).sig.syms.length c0S, .slice a1S (stkNew x0).levels.length c1S] 80)).heap.size = wS.heap.size + 1 := by simp
  replace X0 := cells_later X0 hlX0 hb
  replace r_S := r_S.below hb
  replace fr_S := fr_S.below hb
  replace hB := hB.trans (hb.mono hz0)
  have hzn := hb.size
  replace hlX0 := Nat.lt_of_lt_of_le hlX0 hzn
  replace hh_S := Nat.le_trans hh_S hzn
  replace hz0 := Nat.le_trans hz0 hzn
  clear hb hzn
  have hlZS : wS.heap.size < (wS.alloc (.cells #[.slice a0S (stkNew x0).sig.syms.length c0S, .slice a1S (stkNew x0).levels.length c1S] 80)).heap.size := by simp
  go_wp2_with fail
  have o_X0_T0 := hlX0
  have o_ZS_T0 := hlZS
  have o_S_T0 := hh_S
  have base_T0 := hz0
  refine (toSig_x x0 _ _ _ hbig0 (by exact hv0.below hB)).mono ?_
  rintro e wt0 ⟨t0, f_T0, rfl, r_T0, fr_T0, hb⟩
  have hi_T0 : ∀ b ∈ f_T0, b < wt0.heap.size := r_T0.lt
  replace X0 := cells_later X0 hlX0 hb
  replace ZS := cells_later ZS hlZS hb
  replace r_S := r_S.below hb
  replace fr_S := fr_S.below hb
  replace hB := hB.trans (hb.mono hz0)
  have hzn := hb.size
  replace hlX0 := Nat.lt_of_lt_of_le hlX0 hzn
  replace hlZS := Nat.lt_of_lt_of_le hlZS hzn
  replace hh_S := Nat.le_trans hh_S hzn
  replace hz0 := Nat.le_trans hz0 hzn
  clear hb hzn
  have hh_T0 : wt0.heap.size ≤ wt0.heap.size := Nat.le_refl _
  have r_T0' := r_T0
  obtain ⟨a0T0, c0T0, f0T0, rfl, _, _⟩ := Sg.open r_T0'
  have ZT0 := cell_new wt0 #[.slice a0T0 x0.syms.length c0T0] 77
  have o_S_ZT0 := hh_S
  have o_T0_ZT0 := hh_T0
  have hb := below_alloc wt0 (.cells #[.slice a0T0 x0.syms.length c0T0] 77)
  have hzz : (wt0.alloc (.cells #[.slice a0T0 x0.syms.length c0T0] 77)).heap.size = wt0.heap.size + 1 := by simp
  replace X0 := cells_later X0 hlX0 hb
  replace ZS := cells_later ZS hlZS hb
  replace r_S := r_S.below hb
  replace fr_S := fr_S.below hb
  replace r_T0 := r_T0.below hb
  replace fr_T0 := fr_T0.below hb
  replace hB := hB.trans (hb.mono hz0)
  have hzn := hb.size
  replace hlX0 := Nat.lt_of_lt_of_le hlX0 hzn
  replace hlZS := Nat.lt_of_lt_of_le hlZS hzn
  replace hh_S := Nat.le_trans hh_S hzn
  replace hh_T0 := Nat.le_trans hh_T0 hzn
  replace hz0 := Nat.le_trans hz0 hzn
  clear hb hzn
  have hlZT0 : wt0.heap.size < (wt0.alloc (.cells #[.slice a0T0 x0.syms.length c0T0] 77)).heap.size := by simp
  go_wp2_with fail
  have o_X0_G := hlX0
  have o_ZS_G := hlZS
  have o_ZT0_G := hlZT0
  have o_S_G := hh_S
  have o_T0_G := hh_T0
  have base_G := hz0
  refine (stackNew_any x0 _ _ _ hbig0 (by exact r_T0)).mono ?_
  rintro e wG ⟨vG, f_G, rfl, r_G, fr_G, hb⟩
  have hi_G : ∀ b ∈ f_G, b < wG.heap.size := r_G.lt
  replace X0 := cells_later X0 hlX0 hb
  replace ZS := cells_later ZS hlZS hb
  replace ZT0 := cells_later ZT0 hlZT0 hb
  replace r_S := r_S.below hb
  replace fr_S := fr_S.below hb
  replace r_T0 := r_T0.below hb
  replace fr_T0 := fr_T0.below hb
  replace hB := hB.trans (hb.mono hz0)
  have hzn := hb.size
  replace hlX0 := Nat.lt_of_lt_of_le hlX0 hzn
  replace hlZS := Nat.lt_of_lt_of_le hlZS hzn
  replace hlZT0 := Nat.lt_of_lt_of_le hlZT0 hzn
  replace hh_S := Nat.le_trans hh_S hzn
  replace hh_T0 := Nat.le_trans hh_T0 hzn
  replace hz0 := Nat.le_trans hz0 hzn
  clear hb hzn
  have hh_G : wG.heap.size ≤ wG.heap.size := Nat.le_refl _
  have r_G' := r_G
  obtain ⟨a0G, c0G, f0G, a1G, c1G, f1G, rfl, _, _, _⟩ := Stk.open r_G'
  have ZG := cell_new wG #[.slice a0G (stkNew x0).sig.syms.length c0G, .slice a1G (stkNew x0).levels.length c1G] 80
  have o_S_ZG := hh_S
  have o_T0_ZG := hh_T0
  have o_G_ZG := hh_G
  have hb := below_alloc wG (.cells #[.slice a0G (stkNew x0).sig.syms.length c0G, .slice a1G (stkNew x0).levels.length c1G] 80)
  have hzz : (wG.alloc (.cells #[.slice a0G (stkNew x0).sig.syms.length c0G, .slice a1G (stkNew x0).levels.length c1G] 80)).heap.size = wG.heap.size + 1 := by simp
  replace X0 := cells_later X0 hlX0 hb
  replace ZS := cells_later ZS hlZS hb
  replace ZT0 := cells_later ZT0 hlZT0 hb
  replace r_S := r_S.below hb
  replace fr_S := fr_S.below hb
  replace r_T0 := r_T0.below hb
  replace fr_T0 := fr_T0.below hb
  replace r_G := r_G.below hb
  replace fr_G := fr_G.below hb
  replace hB := hB.trans (hb.mono hz0)
  have hzn := hb.size
  replace hlX0 := Nat.lt_of_lt_of_le hlX0 hzn
  replace hlZS := Nat.lt_of_lt_of_le hlZS hzn
  replace hlZT0 := Nat.lt_of_lt_of_le hlZT0 hzn
  replace hh_S := Nat.le_trans hh_S hzn
  replace hh_T0 := Nat.le_trans hh_T0 hzn
  replace hh_G := Nat.le_trans hh_G hzn
  replace hz0 := Nat.le_trans hz0 hzn
  clear hb hzn
  have hlZG : wG.heap.size < (wG.alloc (.cells #[.slice a0G (stkNew x0).sig.syms.length c0G, .slice a1G (stkNew x0).levels.length c1G] 80)).heap.size := by simp
  go_wp2_with fail
  refine (eqStack_x (stkNew x0) _ _ _ _ _ (by exact r_G) (by exact r_S)).mono ?_
  rintro e we1 ⟨rfl, hb⟩
  replace X0 := cells_later X0 hlX0 hb
  replace ZS := cells_later ZS hlZS hb
  replace ZT0 := cells_later ZT0 hlZT0 hb
  replace ZG := cells_later ZG hlZG hb
  replace r_S := r_S.below hb
  replace fr_S := fr_S.below hb
  replace r_T0 := r_T0.below hb
  replace fr_T0 := fr_T0.below hb
  replace r_G := r_G.below hb
  replace fr_G := fr_G.below hb
  replace hB := hB.trans (hb.mono hz0)
  have hzn := hb.size
  replace hlX0 := Nat.lt_of_lt_of_le hlX0 hzn
  replace hlZS := Nat.lt_of_lt_of_le hlZS hzn
  replace hlZT0 := Nat.lt_of_lt_of_le hlZT0 hzn
  replace hlZG := Nat.lt_of_lt_of_le hlZG hzn
  replace hh_S := Nat.le_trans hh_S hzn
  replace hh_T0 := Nat.le_trans hh_T0 hzn
  replace hh_G := Nat.le_trans hh_G hzn
  replace hz0 := Nat.le_trans hz0 hzn
  clear hb hzn
  go_wp2_with fail
  have C0_0 := X0 0
  have C1_0 := ZS 0
  have C1_1 := ZS 1
  have C2_0 := ZT0 0
  have C3_0 := ZG 0
  have C3_1 := ZG 1
  simp only [List.getElem?_toArray, List.getElem?_cons_zero, List.getElem?_cons_succ] at C0_0 C1_0 C1_1 C2_0 C3_0 C3_1
  go_region_held3 (fun W => W.cell? ⟨w.heap.size, 0, none⟩ = some (.slice a0A0 x0.syms.length c0A0) ∧ W.cell? ⟨wS.heap.size, 0, none⟩ = some (.slice a0S (stkNew x0).sig.syms.length c0S) ∧ W.cell? ⟨wS.heap.size, 1, none⟩ = some (.slice a1S (stkNew x0).levels.length c1S) ∧ W.cell? ⟨wt0.heap.size, 0, none⟩ = some (.slice a0T0 x0.syms.length c0T0) ∧ W.cell? ⟨wG.heap.size, 0, none⟩ = some (.slice a0G (stkNew x0).sig.syms.length c0G) ∧ W.cell? ⟨wG.heap.size, 1, none⟩ = some (.slice a1G (stkNew x0).levels.length c1G) ∧ Below w.heap.size w W)
    (first | exact ⟨C0_0, C1_0, C1_1, C2_0, C3_0, C3_1, hB.drew⟩ | (refine ⟨?_, ?_, ?_, ?_, ?_, ?_, hB.trans ((below_undrew' hbE0).mono hB.size)⟩ <;> (refine (cell_keep ?_ (below_undrew' hbE0)); assumption)) | (refine (cell_keep ?_ (below_undrew' hbE0)); assumption) | exact hB.trans ((below_undrew' hbE0).mono hB.size) | (refine ⟨?_, ?_, ?_, ?_, ?_, ?_, (hB.trans ((below_undrew' hbE0).mono hB.size)).trans (hbF0.mono (hB.trans ((below_undrew' hbE0).mono hB.size)).size)⟩ <;> (refine (cell_keep (cell_keep ?_ (below_undrew' hbE0)) hbF0); assumption)) | (refine (cell_keep (cell_keep ?_ (below_undrew' hbE0)) hbF0); assumption) | exact (hB.trans ((below_undrew' hbE0).mono hB.size)).trans (hbF0.mono (hB.trans ((below_undrew' hbE0).mono hB.size)).size))
    (first | (go_at_call 49; (with_reducible refine (toSig_x x0 _ _ _ hbig0 (by exact hv0.below (hB.drew))).mono ?_); rintro e wE0 ⟨u0, uf0, rfl, ur0, ug0, hbE0⟩) | (go_at_call 52; (with_reducible refine (eqSig_x x0 _ _ _ _ _ (by exact r_T0.below ((below_undrew' hbE0))) (by exact ur0)).mono ?_); rintro e wF0 ⟨rfl, hbF0⟩))
  have hb := below_undrew' hbE0
  clear hbE0
  replace X0 := cells_later X0 hlX0 hb
  replace ZS := cells_later ZS hlZS hb
  replace ZT0 := cells_later ZT0 hlZT0 hb
  replace ZG := cells_later ZG hlZG hb
  replace r_S := r_S.below hb
  replace fr_S := fr_S.below hb
  replace r_T0 := r_T0.below hb
  replace fr_T0 := fr_T0.below hb
  replace r_G := r_G.below hb
  replace fr_G := fr_G.below hb
  replace hB := hB.trans (hb.mono hz0)
  have hzn := hb.size
  replace hlX0 := Nat.lt_of_lt_of_le hlX0 hzn
  replace hlZS := Nat.lt_of_lt_of_le hlZS hzn
  replace hlZT0 := Nat.lt_of_lt_of_le hlZT0 hzn
  replace hlZG := Nat.lt_of_lt_of_le hlZG hzn
  replace hh_S := Nat.le_trans hh_S hzn
  replace hh_T0 := Nat.le_trans hh_T0 hzn
  replace hh_G := Nat.le_trans hh_G hzn
  replace hz0 := Nat.le_trans hz0 hzn
  clear hb hzn
  have hb := hbF0
  clear hbF0
  replace X0 := cells_later X0 hlX0 hb
  replace ZS := cells_later ZS hlZS hb
  replace ZT0 := cells_later ZT0 hlZT0 hb
  replace ZG := cells_later ZG hlZG hb
  replace r_S := r_S.below hb
  replace fr_S := fr_S.below hb
  replace r_T0 := r_T0.below hb
  replace fr_T0 := fr_T0.below hb
  replace r_G := r_G.below hb
  replace fr_G := fr_G.below hb
  replace hB := hB.trans (hb.mono hz0)
  have hzn := hb.size
  replace hlX0 := Nat.lt_of_lt_of_le hlX0 hzn
  replace hlZS := Nat.lt_of_lt_of_le hlZS hzn
  replace hlZT0 := Nat.lt_of_lt_of_le hlZT0 hzn
  replace hlZG := Nat.lt_of_lt_of_le hlZG hzn
  replace hh_S := Nat.le_trans hh_S hzn
  replace hh_T0 := Nat.le_trans hh_T0 hzn
  replace hh_G := Nat.le_trans hh_G hzn
  replace hz0 := Nat.le_trans hz0 hzn
  clear hb hzn
  clear C0_0 C1_0 C1_1 C2_0 C3_0 C3_1
  go_wp2_with fail
  have hcb0 : cntT x0.cd ≤ 16777216 := by have := Sg.cdT_cnt x0; omega
  refine (markSig_x x0 _ _ (1) _ (by omega) (by omega) (by exact r_T0) fr_T0.free fr_T0.1).mono ?_
  rintro e wm0 ⟨rfl, _, _, ho⟩
  replace X0 := MkV.cells ho hlX0 (fun h => by have := (fr_T0.2 _ h).1; have := hi_T0 _ h; omega) X0
  replace ZS := MkV.cells ho hlZS (fun h => by have := (fr_T0.2 _ h).1; have := hi_T0 _ h; omega) ZS
  replace ZT0 := MkV.cells ho hlZT0 (fun h => by have := (fr_T0.2 _ h).1; have := hi_T0 _ h; omega) ZT0
  replace ZG := MkV.cells ho hlZG (fun h => by have := (fr_T0.2 _ h).1; have := hi_T0 _ h; omega) ZG
  have so : SameOn f_S _ _ := ho.same (fun b hb => Nat.lt_of_lt_of_le (hi_S b hb) hh_S) (fun b hb hx => by have := hi_S b hb; have := (fr_S.2 b hb).1; have := hi_T0 b hx; have := (fr_T0.2 b hx).1; omega)
  replace r_S := r_S.same _ so
  replace fr_S := fr_S.same so
  clear so
  have so : SameOn f_G _ _ := ho.same (fun b hb => Nat.lt_of_lt_of_le (hi_G b hb) hh_G) (fun b hb hx => by have := hi_G b hb; have := (fr_G.2 b hb).1; have := hi_T0 b hx; have := (fr_T0.2 b hx).1; omega)
  replace r_G := r_G.same _ so
  replace fr_G := fr_G.same so
  clear so
  replace hB := hB.trans (ho.toBelow (B := w.heap.size) hz0 (fun b hb => by have := (fr_T0.2 b hb).1; omega))
  have hzn := ho.size
  replace hlX0 := Nat.lt_of_lt_of_le hlX0 hzn
  replace hlZS := Nat.lt_of_lt_of_le hlZS hzn
  replace hlZT0 := Nat.lt_of_lt_of_le hlZT0 hzn
  replace hlZG := Nat.lt_of_lt_of_le hlZG hzn
  replace hh_S := Nat.le_trans hh_S hzn
  replace hh_T0 := Nat.le_trans hh_T0 hzn
  replace hh_G := Nat.le_trans hh_G hzn
  replace hz0 := Nat.le_trans hz0 hzn
  clear ho hzn
  clear r_T0 fr_T0
  have hneg : decide (((1 + cntT x0.cd : Int)) < 0) = false := by simp; omega
  go_wp2_with fail
  clear hneg
  refine (eqStack_x (stkNew x0) _ _ _ _ _ (by exact r_G) (by exact r_S)).mono ?_
  rintro e we2 ⟨rfl, hb⟩
  replace X0 := cells_later X0 hlX0 hb
  replace ZS := cells_later ZS hlZS hb
  replace ZT0 := cells_later ZT0 hlZT0 hb
  replace ZG := cells_later ZG hlZG hb
  replace r_S := r_S.below hb
  replace fr_S := fr_S.below hb
  replace r_G := r_G.below hb
  replace fr_G := fr_G.below hb
  replace hB := hB.trans (hb.mono hz0)
  have hzn := hb.size
  replace hlX0 := Nat.lt_of_lt_of_le hlX0 hzn
  replace hlZS := Nat.lt_of_lt_of_le hlZS hzn
  replace hlZT0 := Nat.lt_of_lt_of_le hlZT0 hzn
  replace hlZG := Nat.lt_of_lt_of_le hlZG hzn
  replace hh_S := Nat.le_trans hh_S hzn
  replace hh_G := Nat.le_trans hh_G hzn
  replace hz0 := Nat.le_trans hz0 hzn
  clear hb hzn
  go_wp2_with fail
  refine (markStack_x (stkNew x0) _ _ 1 _ (by omega) (by omega) (by exact r_G) fr_G.free fr_G.1).mono ?_
  rintro e wM ⟨rfl, r_G', hfm, ho⟩
  replace X0 := MkV.cells ho hlX0 (fun h => by have := (fr_G.2 _ h).1; have := hi_G _ h; omega) X0
  replace ZS := MkV.cells ho hlZS (fun h => by have := (fr_G.2 _ h).1; have := hi_G _ h; omega) ZS
  replace ZT0 := MkV.cells ho hlZT0 (fun h => by have := (fr_G.2 _ h).1; have := hi_G _ h; omega) ZT0
  replace ZG := MkV.cells ho hlZG (fun h => by have := (fr_G.2 _ h).1; have := hi_G _ h; omega) ZG
  have so : SameOn f_S _ _ := ho.same (fun b hb => Nat.lt_of_lt_of_le (hi_S b hb) hh_S) (fun b hb hx => by have := hi_S b hb; have := (fr_S.2 b hb).1; have := hi_G b hx; have := (fr_G.2 b hx).1; omega)
  replace r_S := r_S.same _ so
  replace fr_S := fr_S.same so
  clear so
  replace hB := hB.trans (ho.toBelow (B := w.heap.size) hz0 (fun b hb => by have := (fr_G.2 b hb).1; omega))
  have hzn := ho.size
  replace hlX0 := Nat.lt_of_lt_of_le hlX0 hzn
  replace hlZS := Nat.lt_of_lt_of_le hlZS hzn
  replace hlZT0 := Nat.lt_of_lt_of_le hlZT0 hzn
  replace hlZG := Nat.lt_of_lt_of_le hlZG hzn
  replace hh_S := Nat.le_trans hh_S hzn
  replace hh_G := Nat.le_trans hh_G hzn
  replace hz0 := Nat.le_trans hz0 hzn
  clear ho hzn
  have fr_M : True := trivial
  clear r_G fr_G
  have r_G := r_G'
  clear r_G' hfm
  go_wp2_with fail
  refine (heldStack_x (stkNew x0) _ _ _ _ _ 1 _ (by omega) (by omega) (by exact r_G)).mono ?_
  rintro e wh3 ⟨rfl, hb⟩
  replace r_G := r_G.below hb
  replace X0 := cells_later X0 hlX0 hb
  replace ZS := cells_later ZS hlZS hb
  replace ZT0 := cells_later ZT0 hlZT0 hb
  replace ZG := cells_later ZG hlZG hb
  replace r_S := r_S.below hb
  replace fr_S := fr_S.below hb
  replace hB := hB.trans (hb.mono hz0)
  have hzn := hb.size
  replace hlX0 := Nat.lt_of_lt_of_le hlX0 hzn
  replace hlZS := Nat.lt_of_lt_of_le hlZS hzn
  replace hlZT0 := Nat.lt_of_lt_of_le hlZT0 hzn
  replace hlZG := Nat.lt_of_lt_of_le hlZG hzn
  replace hh_S := Nat.le_trans hh_S hzn
  replace hz0 := Nat.le_trans hz0 hzn
  clear hb hzn
  have hneg : decide (((1 + cntT (stkNew x0).cd : Int)) < 0) = false := by simp; omega
  have hne : ((1 + cntT (stkNew x0).cd : Int) != (1 + cntT (stkNew x0).cd : Int)) = false := by simp
  go_wp2_with fail
  clear hneg hne
  refine (toSig_x x0 _ _ _ hbig0 (by exact hv0.below hB)).mono ?_
  rintro e wy0 ⟨y0, yf0, rfl, yr0, yg0, hb⟩
  replace r_G := r_G.below hb
  replace X0 := cells_later X0 hlX0 hb
  replace ZS := cells_later ZS hlZS hb
  replace ZT0 := cells_later ZT0 hlZT0 hb
  replace ZG := cells_later ZG hlZG hb
  replace r_S := r_S.below hb
  replace fr_S := fr_S.below hb
  replace hB := hB.trans (hb.mono hz0)
  have hzn := hb.size
  replace hlX0 := Nat.lt_of_lt_of_le hlX0 hzn
  replace hlZS := Nat.lt_of_lt_of_le hlZS hzn
  replace hlZT0 := Nat.lt_of_lt_of_le hlZT0 hzn
  replace hlZG := Nat.lt_of_lt_of_le hlZG hzn
  replace hh_S := Nat.le_trans hh_S hzn
  replace hz0 := Nat.le_trans hz0 hzn
  clear hb hzn
  go_wp2_with fail
  refine (stackNew_any x0 _ _ _ hbig0 (by exact yr0)).mono ?_
  rintro e wH ⟨vH, f_H, rfl, r_H, fr_H, hb⟩
  replace r_G := r_G.below hb
  replace X0 := cells_later X0 hlX0 hb
  replace ZS := cells_later ZS hlZS hb
  replace ZT0 := cells_later ZT0 hlZT0 hb
  replace ZG := cells_later ZG hlZG hb
  replace r_S := r_S.below hb
  replace fr_S := fr_S.below hb
  replace hB := hB.trans (hb.mono hz0)
  have hzn := hb.size
  replace hlX0 := Nat.lt_of_lt_of_le hlX0 hzn
  replace hlZS := Nat.lt_of_lt_of_le hlZS hzn
  replace hlZT0 := Nat.lt_of_lt_of_le hlZT0 hzn
  replace hlZG := Nat.lt_of_lt_of_le hlZG hzn
  replace hh_S := Nat.le_trans hh_S hzn
  replace hz0 := Nat.le_trans hz0 hzn
  clear hb hzn
  have r_H' := r_H
  obtain ⟨a0H, c0H, f0H, a1H, c1H, f1H, rfl, _, _, _⟩ := Stk.open r_H'
  have ZH := cell_new wH #[.slice a0H (stkNew x0).sig.syms.length c0H, .slice a1H (stkNew x0).levels.length c1H] 80
  have hb := below_alloc wH (.cells #[.slice a0H (stkNew x0).sig.syms.length c0H, .slice a1H (stkNew x0).levels.length c1H] 80)
  have hzz : (wH.alloc (.cells #[.slice a0H (stkNew x0).sig.syms.length c0H, .slice a1H (stkNew x0).levels.length c1H] 80)).heap.size = wH.heap.size + 1 := by simp
  replace r_H := r_H.below hb
  replace r_G := r_G.below hb
  replace X0 := cells_later X0 hlX0 hb
  replace ZS := cells_later ZS hlZS hb
  replace ZT0 := cells_later ZT0 hlZT0 hb
  replace ZG := cells_later ZG hlZG hb
  replace r_S := r_S.below hb
  replace fr_S := fr_S.below hb
  replace hB := hB.trans (hb.mono hz0)
  have hzn := hb.size
  replace hlX0 := Nat.lt_of_lt_of_le hlX0 hzn
  replace hlZS := Nat.lt_of_lt_of_le hlZS hzn
  replace hlZT0 := Nat.lt_of_lt_of_le hlZT0 hzn
  replace hlZG := Nat.lt_of_lt_of_le hlZG hzn
  replace hh_S := Nat.le_trans hh_S hzn
  replace hz0 := Nat.le_trans hz0 hzn
  clear hb hzn
  have hlZH : wH.heap.size < (wH.alloc (.cells #[.slice a0H (stkNew x0).sig.syms.length c0H, .slice a1H (stkNew x0).levels.length c1H] 80)).heap.size := by simp
  go_wp2_with fail
  refine (eqStack_x (stkNew x0) _ _ _ _ _ (by exact r_H) (by exact r_S)).mono ?_
  rintro e we4 ⟨rfl, hb⟩
  replace r_G := r_G.below hb
  replace X0 := cells_later X0 hlX0 hb
  replace ZS := cells_later ZS hlZS hb
  replace ZT0 := cells_later ZT0 hlZT0 hb
  replace ZG := cells_later ZG hlZG hb
  replace ZH := cells_later ZH hlZH hb
  replace r_S := r_S.below hb
  replace fr_S := fr_S.below hb
  replace hB := hB.trans (hb.mono hz0)
  have hzn := hb.size
  replace hlX0 := Nat.lt_of_lt_of_le hlX0 hzn
  replace hlZS := Nat.lt_of_lt_of_le hlZS hzn
  replace hlZT0 := Nat.lt_of_lt_of_le hlZT0 hzn
  replace hlZG := Nat.lt_of_lt_of_le hlZG hzn
  replace hlZH := Nat.lt_of_lt_of_le hlZH hzn
  replace hh_S := Nat.le_trans hh_S hzn
  replace hz0 := Nat.le_trans hz0 hzn
  clear hb hzn
  go_wp2_with fail
  refine (heldStack_x (stkNew x0) _ _ _ _ _ 1 _ (by omega) (by omega) (by exact r_G)).mono ?_
  rintro e wh5 ⟨rfl, hb⟩
  replace r_G := r_G.below hb
  replace X0 := cells_later X0 hlX0 hb
  replace ZS := cells_later ZS hlZS hb
  replace ZT0 := cells_later ZT0 hlZT0 hb
  replace ZG := cells_later ZG hlZG hb
  replace ZH := cells_later ZH hlZH hb
  replace r_S := r_S.below hb
  replace fr_S := fr_S.below hb
  replace hB := hB.trans (hb.mono hz0)
  have hzn := hb.size
  replace hlX0 := Nat.lt_of_lt_of_le hlX0 hzn
  replace hlZS := Nat.lt_of_lt_of_le hlZS hzn
  replace hlZT0 := Nat.lt_of_lt_of_le hlZT0 hzn
  replace hlZG := Nat.lt_of_lt_of_le hlZG hzn
  replace hlZH := Nat.lt_of_lt_of_le hlZH hzn
  replace hh_S := Nat.le_trans hh_S hzn
  replace hz0 := Nat.le_trans hz0 hzn
  clear hb hzn
  have hneg : decide (((1 + cntT (stkNew x0).cd : Int)) < 0) = false := by simp; omega
  have hne : ((1 + cntT (stkNew x0).cd : Int) != (1 + cntT (stkNew x0).cd : Int)) = false := by simp
  go_wp2_with fail
  clear hneg hne
  go_ret
  exact ⟨rfl, hB⟩
end Go.Proofs.Ytaogaddgfllkpaa
