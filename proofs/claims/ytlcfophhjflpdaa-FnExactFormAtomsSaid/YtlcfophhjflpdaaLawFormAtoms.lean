/- The law FnExactFormAtoms returns true. -/
import Derived.Deep.RegionHeld3
import Derived.Test.YtlcfophhjflpdaaFormU
import Derived.Test.YtlcfophhjflpdaaCnt
import Derived.Test.YtlcfophhjflpdaaExSz
import Derived.Test.YtlcfophhjflpdaaExEq
namespace Go.Proofs.Ytlcfophhjflpdaa
open Go Go.RowKit
set_option linter.unusedVariables false
set_option linter.unusedSimpArgs false
theorem atomsF_cnt (f : Fm) : cntR (f.atomsF.map Atm.cd) ≤ 16 * (1 + wtV f.cd + wtV f.cd) := by
  have h := cntR_wt (f := Atm.cd) (xs := f.atomsF) (fun y _ => Atm.cd_cnt y)
  have h1 := Fm.add_len f []
  have h2 := Fm.add_wt f []
  simp only [List.length_nil, List.map_nil, wtR, Nat.zero_add] at h1 h2
  cases hok : f.okF
  · rw [Fm.atomsF_no hok] at h ⊢; simp [cntR]
  · rw [Fm.atomsF_yes hok] at h ⊢; omega
set_option maxHeartbeats 4000000 in
theorem exFormAtoms_walk (x0 : Fm) (v0 : List Value) (f0 : List Nat) (w : World) (hv0 : RdVs w x0.cd v0 f0) :
    Calls Try.prog 3 #[.agg v0.toArray] w fun e w' => e = .returned (.bool true) ∧ Below w.heap.size w w' := by
  obtain ⟨a3A0, c3A0, f3A0, a5A0, c5A0, f5A0, a6A0, c6A0, f6A0, a7A0, c7A0, f7A0, a11A0, c11A0, f11A0, rfl, _, _, _, _, _, _, _, _, _, _, _⟩ := Fm.open hv0
  go_enter Try.func3, Try.ntmps3
  go_wp2_with fail
  refine (szForm_x x0 _ _ _ _ (by omega) (by omega) (by exact hv0.below (below_alloc _ _))).mono ?_
  rintro e w1 ⟨⟨r0, rfl, hr0⟩, hb⟩
  obtain ⟨X0, hz, hB⟩ := box1 (w := w) (wr := w1) (cs := #[.int .i64 x0.kind, .int .i64 x0.lit.atom.kind, .string x0.lit.atom.a.name, .slice a3A0 x0.lit.atom.a.kids.length c3A0, .string x0.lit.atom.b.name, .slice a5A0 x0.lit.atom.b.kids.length c5A0, .slice a6A0 x0.lit.atom.nums.length c6A0, .slice a7A0 x0.lit.atom.times.length c7A0, .int .i64 x0.lit.atom.bound, .bool x0.lit.atom.strict, .bool x0.lit.no, .slice a11A0 x0.kids.length c11A0]) (T := 32) (below_size hb (by simp))
  have hz0 := hB.size
  have hlX0 : w.heap.size < w1.heap.size := by omega
  clear hb
  rcases hr0 with ⟨hs0, rfl⟩ | ⟨hs0, rfl⟩
  rotate_left
  · go_wp2_with fail
    go_ret
    exact ⟨rfl, hB⟩
  go_wp2_with fail
  have hbig0 : wtV x0.cd ≤ 1048576 := by omega
  clear hs0
  have hrb : cntR ((Fm.atomsF x0).map Atm.cd) ≤ 100000000000000 := (by have := atomsF_cnt x0; omega)
  have o_X0_S := hlX0
  have base_S := hz0
  refine (toForm_x x0 _ _ _ hbig0 (by exact hv0.below hB)).mono ?_
  rintro e ws0 ⟨s0, sf0, rfl, sr0, sg0, hb⟩
  replace X0 := cells_later X0 hlX0 hb
  replace hB := hB.trans (hb.mono hz0)
  have hzn := hb.size
  replace hlX0 := Nat.lt_of_lt_of_le hlX0 hzn
  replace hz0 := Nat.le_trans hz0 hzn
  clear hb hzn
  go_wp2_with fail
  refine (formAtomsS_any x0 _ _ _ hbig0 (by exact sr0)).mono ?_
  rintro e wS ⟨vS, f_S, rfl, r_S, fr_S, hb⟩
  have hi_S : ∀ b ∈ f_S, b < wS.heap.size := r_S.lt _
  replace X0 := cells_later X0 hlX0 hb
  replace hB := hB.trans (hb.mono hz0)
  have hzn := hb.size
  replace hlX0 := Nat.lt_of_lt_of_le hlX0 hzn
  replace hz0 := Nat.le_trans hz0 hzn
  clear hb hzn
  have hh_S : wS.heap.size ≤ wS.heap.size := Nat.le_refl _
  go_wp2_with fail
  have o_X0_T0 := hlX0
  have o_S_T0 := hh_S
  have base_T0 := hz0
  refine (toForm_x x0 _ _ _ hbig0 (by exact hv0.below hB)).mono ?_
  rintro e wt0 ⟨t0, f_T0, rfl, r_T0, fr_T0, hb⟩
  have hi_T0 : ∀ b ∈ f_T0, b < wt0.heap.size := r_T0.lt
  replace X0 := cells_later X0 hlX0 hb
  replace r_S := r_S.below hb
  replace fr_S := fr_S.below hb
  replace hB := hB.trans (hb.mono hz0)
  have hzn := hb.size
  replace hlX0 := Nat.lt_of_lt_of_le hlX0 hzn
  replace hh_S := Nat.le_trans hh_S hzn
  replace hz0 := Nat.le_trans hz0 hzn
  clear hb hzn
  have hh_T0 : wt0.heap.size ≤ wt0.heap.size := Nat.le_refl _
  have r_T0' := r_T0
  obtain ⟨a3T0, c3T0, f3T0, a5T0, c5T0, f5T0, a6T0, c6T0, f6T0, a7T0, c7T0, f7T0, a11T0, c11T0, f11T0, rfl, _, _, _, _, _, _, _, _, _, _, _⟩ := Fm.open r_T0'
  have ZT0 := cell_new wt0 #[.int .i64 x0.kind, .int .i64 x0.lit.atom.kind, .string x0.lit.atom.a.name, .slice a3T0 x0.lit.atom.a.kids.length c3T0, .string x0.lit.atom.b.name, .slice a5T0 x0.lit.atom.b.kids.length c5T0, .slice a6T0 x0.lit.atom.nums.length c6T0, .slice a7T0 x0.lit.atom.times.length c7T0, .int .i64 x0.lit.atom.bound, .bool x0.lit.atom.strict, .bool x0.lit.no, .slice a11T0 x0.kids.length c11T0] 45
  have o_S_ZT0 := hh_S
  have o_T0_ZT0 := hh_T0
  have hb := below_alloc wt0 (.cells #[.int .i64 x0.kind, .int .i64 x0.lit.atom.kind, .string x0.lit.atom.a.name, .slice a3T0 x0.lit.atom.a.kids.length c3T0, .string x0.lit.atom.b.name, .slice a5T0 x0.lit.atom.b.kids.length c5T0, .slice a6T0 x0.lit.atom.nums.length c6T0, .slice a7T0 x0.lit.atom.times.length c7T0, .int .i64 x0.lit.atom.bound, .bool x0.lit.atom.strict, .bool x0.lit.no, .slice a11T0 x0.kids.length c11T0] 45)
  have hzz : (wt0.alloc (.cells #[.int .i64 x0.kind, .int .i64 x0.lit.atom.kind, .string x0.lit.atom.a.name, .slice a3T0 x0.lit.atom.a.kids.length c3T0, .string x0.lit.atom.b.name, .slice a5T0 x0.lit.atom.b.kids.length c5T0, .slice a6T0 x0.lit.atom.nums.length c6T0, .slice a7T0 x0.lit.atom.times.length c7T0, .int .i64 x0.lit.atom.bound, .bool x0.lit.atom.strict, .bool x0.lit.no, .slice a11T0 x0.kids.length c11T0] 45)).heap.size = wt0.heap.size + 1 := by simp
  replace X0 := cells_later X0 hlX0 hb
  replace r_S := r_S.below hb
  replace fr_S := fr_S.below hb
  replace r_T0 := r_T0.below hb
  replace fr_T0 := fr_T0.below hb
  replace hB := hB.trans (hb.mono hz0)
  have hzn := hb.size
  replace hlX0 := Nat.lt_of_lt_of_le hlX0 hzn
  replace hh_S := Nat.le_trans hh_S hzn
  replace hh_T0 := Nat.le_trans hh_T0 hzn
  replace hz0 := Nat.le_trans hz0 hzn
  clear hb hzn
  have hlZT0 : wt0.heap.size < (wt0.alloc (.cells #[.int .i64 x0.kind, .int .i64 x0.lit.atom.kind, .string x0.lit.atom.a.name, .slice a3T0 x0.lit.atom.a.kids.length c3T0, .string x0.lit.atom.b.name, .slice a5T0 x0.lit.atom.b.kids.length c5T0, .slice a6T0 x0.lit.atom.nums.length c6T0, .slice a7T0 x0.lit.atom.times.length c7T0, .int .i64 x0.lit.atom.bound, .bool x0.lit.atom.strict, .bool x0.lit.no, .slice a11T0 x0.kids.length c11T0] 45)).heap.size := by simp
  go_wp2_with fail
  have o_X0_G := hlX0
  have o_ZT0_G := hlZT0
  have o_S_G := hh_S
  have o_T0_G := hh_T0
  have base_G := hz0
  refine (formAtoms_any x0 _ _ _ hbig0 (by exact r_T0)).mono ?_
  rintro e wG ⟨vG, f_G, rfl, r_G, fr_G, hb⟩
  have hi_G : ∀ b ∈ f_G, b < wG.heap.size := r_G.lt _
  replace X0 := cells_later X0 hlX0 hb
  replace ZT0 := cells_later ZT0 hlZT0 hb
  replace r_S := r_S.below hb
  replace fr_S := fr_S.below hb
  replace r_T0 := r_T0.below hb
  replace fr_T0 := fr_T0.below hb
  replace hB := hB.trans (hb.mono hz0)
  have hzn := hb.size
  replace hlX0 := Nat.lt_of_lt_of_le hlX0 hzn
  replace hlZT0 := Nat.lt_of_lt_of_le hlZT0 hzn
  replace hh_S := Nat.le_trans hh_S hzn
  replace hh_T0 := Nat.le_trans hh_T0 hzn
  replace hz0 := Nat.le_trans hz0 hzn
  clear hb hzn
  have hh_G : wG.heap.size ≤ wG.heap.size := Nat.le_refl _
  go_wp2_with fail
  refine (eqAtomS_x (Fm.atomsF x0) _ _ _ _ _ (by exact r_G) (by exact r_S)).mono ?_
  rintro e we1 ⟨rfl, hb⟩
  replace X0 := cells_later X0 hlX0 hb
  replace ZT0 := cells_later ZT0 hlZT0 hb
  replace r_S := r_S.below hb
  replace fr_S := fr_S.below hb
  replace r_T0 := r_T0.below hb
  replace fr_T0 := fr_T0.below hb
  replace r_G := r_G.below hb
  replace fr_G := fr_G.below hb
  replace hB := hB.trans (hb.mono hz0)
  have hzn := hb.size
  replace hlX0 := Nat.lt_of_lt_of_le hlX0 hzn
  replace hlZT0 := Nat.lt_of_lt_of_le hlZT0 hzn
  replace hh_S := Nat.le_trans hh_S hzn
  replace hh_T0 := Nat.le_trans hh_T0 hzn
  replace hh_G := Nat.le_trans hh_G hzn
  replace hz0 := Nat.le_trans hz0 hzn
  clear hb hzn
  go_wp2_with fail
  have C0_0 := X0 0
  have C0_1 := X0 1
  have C0_2 := X0 2
  have C0_3 := X0 3
  have C0_4 := X0 4
  have C0_5 := X0 5
  have C0_6 := X0 6
  have C0_7 := X0 7
  have C0_8 := X0 8
  have C0_9 := X0 9
  have C0_10 := X0 10
  have C0_11 := X0 11
  have C1_0 := ZT0 0
  have C1_1 := ZT0 1
  have C1_2 := ZT0 2
  have C1_3 := ZT0 3
  have C1_4 := ZT0 4
  have C1_5 := ZT0 5
  have C1_6 := ZT0 6
  have C1_7 := ZT0 7
  have C1_8 := ZT0 8
  have C1_9 := ZT0 9
  have C1_10 := ZT0 10
  have C1_11 := ZT0 11
  simp only [List.getElem?_toArray, List.getElem?_cons_zero, List.getElem?_cons_succ] at C0_0 C0_1 C0_2 C0_3 C0_4 C0_5 C0_6 C0_7 C0_8 C0_9 C0_10 C0_11 C1_0 C1_1 C1_2 C1_3 C1_4 C1_5 C1_6 C1_7 C1_8 C1_9 C1_10 C1_11
  go_region_held3 (fun W => W.cell? ⟨w.heap.size, 0, none⟩ = some (.int .i64 x0.kind) ∧ W.cell? ⟨w.heap.size, 1, none⟩ = some (.int .i64 x0.lit.atom.kind) ∧ W.cell? ⟨w.heap.size, 2, none⟩ = some (.string x0.lit.atom.a.name) ∧ W.cell? ⟨w.heap.size, 3, none⟩ = some (.slice a3A0 x0.lit.atom.a.kids.length c3A0) ∧ W.cell? ⟨w.heap.size, 4, none⟩ = some (.string x0.lit.atom.b.name) ∧ W.cell? ⟨w.heap.size, 5, none⟩ = some (.slice a5A0 x0.lit.atom.b.kids.length c5A0) ∧ W.cell? ⟨w.heap.size, 6, none⟩ = some (.slice a6A0 x0.lit.atom.nums.length c6A0) ∧ W.cell? ⟨w.heap.size, 7, none⟩ = some (.slice a7A0 x0.lit.atom.times.length c7A0) ∧ W.cell? ⟨w.heap.size, 8, none⟩ = some (.int .i64 x0.lit.atom.bound) ∧ W.cell? ⟨w.heap.size, 9, none⟩ = some (.bool x0.lit.atom.strict) ∧ W.cell? ⟨w.heap.size, 10, none⟩ = some (.bool x0.lit.no) ∧ W.cell? ⟨w.heap.size, 11, none⟩ = some (.slice a11A0 x0.kids.length c11A0) ∧ W.cell? ⟨wt0.heap.size, 0, none⟩ = some (.int .i64 x0.kind) ∧ W.cell? ⟨wt0.heap.size, 1, none⟩ = some (.int .i64 x0.lit.atom.kind) ∧ W.cell? ⟨wt0.heap.size, 2, none⟩ = some (.string x0.lit.atom.a.name) ∧ W.cell? ⟨wt0.heap.size, 3, none⟩ = some (.slice a3T0 x0.lit.atom.a.kids.length c3T0) ∧ W.cell? ⟨wt0.heap.size, 4, none⟩ = some (.string x0.lit.atom.b.name) ∧ W.cell? ⟨wt0.heap.size, 5, none⟩ = some (.slice a5T0 x0.lit.atom.b.kids.length c5T0) ∧ W.cell? ⟨wt0.heap.size, 6, none⟩ = some (.slice a6T0 x0.lit.atom.nums.length c6T0) ∧ W.cell? ⟨wt0.heap.size, 7, none⟩ = some (.slice a7T0 x0.lit.atom.times.length c7T0) ∧ W.cell? ⟨wt0.heap.size, 8, none⟩ = some (.int .i64 x0.lit.atom.bound) ∧ W.cell? ⟨wt0.heap.size, 9, none⟩ = some (.bool x0.lit.atom.strict) ∧ W.cell? ⟨wt0.heap.size, 10, none⟩ = some (.bool x0.lit.no) ∧ W.cell? ⟨wt0.heap.size, 11, none⟩ = some (.slice a11T0 x0.kids.length c11T0) ∧ Below w.heap.size w W)
    (first | exact ⟨C0_0, C0_1, C0_2, C0_3, C0_4, C0_5, C0_6, C0_7, C0_8, C0_9, C0_10, C0_11, C1_0, C1_1, C1_2, C1_3, C1_4, C1_5, C1_6, C1_7, C1_8, C1_9, C1_10, C1_11, hB.drew⟩ | (refine ⟨?_, ?_, ?_, ?_, ?_, ?_, ?_, ?_, ?_, ?_, ?_, ?_, ?_, ?_, ?_, ?_, ?_, ?_, ?_, ?_, ?_, ?_, ?_, ?_, hB.trans ((below_undrew' hbE0).mono hB.size)⟩ <;> (refine (cell_keep ?_ (below_undrew' hbE0)); assumption)) | (refine (cell_keep ?_ (below_undrew' hbE0)); assumption) | exact hB.trans ((below_undrew' hbE0).mono hB.size) | (refine ⟨?_, ?_, ?_, ?_, ?_, ?_, ?_, ?_, ?_, ?_, ?_, ?_, ?_, ?_, ?_, ?_, ?_, ?_, ?_, ?_, ?_, ?_, ?_, ?_, (hB.trans ((below_undrew' hbE0).mono hB.size)).trans (hbF0.mono (hB.trans ((below_undrew' hbE0).mono hB.size)).size)⟩ <;> (refine (cell_keep (cell_keep ?_ (below_undrew' hbE0)) hbF0); assumption)) | (refine (cell_keep (cell_keep ?_ (below_undrew' hbE0)) hbF0); assumption) | exact (hB.trans ((below_undrew' hbE0).mono hB.size)).trans (hbF0.mono (hB.trans ((below_undrew' hbE0).mono hB.size)).size))
    (first | (go_at_call 12; (with_reducible refine (toForm_x x0 _ _ _ hbig0 (by exact hv0.below (hB.drew))).mono ?_); rintro e wE0 ⟨u0, uf0, rfl, ur0, ug0, hbE0⟩) | (go_at_call 15; (with_reducible refine (eqForm_x x0 _ _ _ _ _ (by exact r_T0.below ((below_undrew' hbE0))) (by exact ur0)).mono ?_); rintro e wF0 ⟨rfl, hbF0⟩))
  have hb := below_undrew' hbE0
  clear hbE0
  replace X0 := cells_later X0 hlX0 hb
  replace ZT0 := cells_later ZT0 hlZT0 hb
  replace r_S := r_S.below hb
  replace fr_S := fr_S.below hb
  replace r_T0 := r_T0.below hb
  replace fr_T0 := fr_T0.below hb
  replace r_G := r_G.below hb
  replace fr_G := fr_G.below hb
  replace hB := hB.trans (hb.mono hz0)
  have hzn := hb.size
  replace hlX0 := Nat.lt_of_lt_of_le hlX0 hzn
  replace hlZT0 := Nat.lt_of_lt_of_le hlZT0 hzn
  replace hh_S := Nat.le_trans hh_S hzn
  replace hh_T0 := Nat.le_trans hh_T0 hzn
  replace hh_G := Nat.le_trans hh_G hzn
  replace hz0 := Nat.le_trans hz0 hzn
  clear hb hzn
  have hb := hbF0
  clear hbF0
  replace X0 := cells_later X0 hlX0 hb
  replace ZT0 := cells_later ZT0 hlZT0 hb
  replace r_S := r_S.below hb
  replace fr_S := fr_S.below hb
  replace r_T0 := r_T0.below hb
  replace fr_T0 := fr_T0.below hb
  replace r_G := r_G.below hb
  replace fr_G := fr_G.below hb
  replace hB := hB.trans (hb.mono hz0)
  have hzn := hb.size
  replace hlX0 := Nat.lt_of_lt_of_le hlX0 hzn
  replace hlZT0 := Nat.lt_of_lt_of_le hlZT0 hzn
  replace hh_S := Nat.le_trans hh_S hzn
  replace hh_T0 := Nat.le_trans hh_T0 hzn
  replace hh_G := Nat.le_trans hh_G hzn
  replace hz0 := Nat.le_trans hz0 hzn
  clear hb hzn
  clear C0_0 C0_1 C0_2 C0_3 C0_4 C0_5 C0_6 C0_7 C0_8 C0_9 C0_10 C0_11 C1_0 C1_1 C1_2 C1_3 C1_4 C1_5 C1_6 C1_7 C1_8 C1_9 C1_10 C1_11
  go_wp2_with fail
  have hcb0 : cntT x0.cd ≤ 16777216 := by have := Fm.cdT_cnt x0; omega
  refine (markForm_x x0 _ _ (1) _ (by omega) (by omega) (by exact r_T0) fr_T0.free fr_T0.1).mono ?_
  rintro e wm0 ⟨rfl, _, _, ho⟩
  replace X0 := MkV.cells ho hlX0 (fun h => by have := (fr_T0.2 _ h).1; have := hi_T0 _ h; omega) X0
  replace ZT0 := MkV.cells ho hlZT0 (fun h => by have := (fr_T0.2 _ h).1; have := hi_T0 _ h; omega) ZT0
  have so : SameOn f_S _ _ := ho.same (fun b hb => Nat.lt_of_lt_of_le (hi_S b hb) hh_S) (fun b hb hx => by have := hi_S b hb; have := (fr_S.2 b hb).1; have := hi_T0 b hx; have := (fr_T0.2 b hx).1; omega)
  replace r_S := r_S.same _ so
  replace fr_S := fr_S.same so
  clear so
  have so : SameOn f_G _ _ := ho.same (fun b hb => Nat.lt_of_lt_of_le (hi_G b hb) hh_G) (fun b hb hx => by have := hi_G b hb; have := (fr_G.2 b hb).1; have := hi_T0 b hx; have := (fr_T0.2 b hx).1; omega)
  replace r_G := r_G.same _ so
  replace fr_G := fr_G.same so
  clear so
  replace hB := hB.trans (ho.toBelow (B := w.heap.size) hz0 (fun b hb => by have := (fr_T0.2 b hb).1; omega))
  have hzn := ho.size
  replace hlX0 := Nat.lt_of_lt_of_le hlX0 hzn
  replace hlZT0 := Nat.lt_of_lt_of_le hlZT0 hzn
  replace hh_S := Nat.le_trans hh_S hzn
  replace hh_T0 := Nat.le_trans hh_T0 hzn
  replace hh_G := Nat.le_trans hh_G hzn
  replace hz0 := Nat.le_trans hz0 hzn
  clear ho hzn
  clear r_T0 fr_T0
  have hneg : decide (((1 + cntT x0.cd : Int)) < 0) = false := by simp; omega
  go_wp2_with fail
  clear hneg
  refine (eqAtomS_x (Fm.atomsF x0) _ _ _ _ _ (by exact r_G) (by exact r_S)).mono ?_
  rintro e we2 ⟨rfl, hb⟩
  replace X0 := cells_later X0 hlX0 hb
  replace ZT0 := cells_later ZT0 hlZT0 hb
  replace r_S := r_S.below hb
  replace fr_S := fr_S.below hb
  replace r_G := r_G.below hb
  replace fr_G := fr_G.below hb
  replace hB := hB.trans (hb.mono hz0)
  have hzn := hb.size
  replace hlX0 := Nat.lt_of_lt_of_le hlX0 hzn
  replace hlZT0 := Nat.lt_of_lt_of_le hlZT0 hzn
  replace hh_S := Nat.le_trans hh_S hzn
  replace hh_G := Nat.le_trans hh_G hzn
  replace hz0 := Nat.le_trans hz0 hzn
  clear hb hzn
  go_wp2_with fail
  refine (markAtomS_x (Fm.atomsF x0) _ _ 1 _ (by omega) (by omega) r_G fr_G.free fr_G.1).mono ?_
  rintro e wM ⟨rfl, r_G', hfm, ho⟩
  replace X0 := MkV.cells ho hlX0 (fun h => by have := (fr_G.2 _ h).1; have := hi_G _ h; omega) X0
  replace ZT0 := MkV.cells ho hlZT0 (fun h => by have := (fr_G.2 _ h).1; have := hi_G _ h; omega) ZT0
  have so : SameOn f_S _ _ := ho.same (fun b hb => Nat.lt_of_lt_of_le (hi_S b hb) hh_S) (fun b hb hx => by have := hi_S b hb; have := (fr_S.2 b hb).1; have := hi_G b hx; have := (fr_G.2 b hx).1; omega)
  replace r_S := r_S.same _ so
  replace fr_S := fr_S.same so
  clear so
  replace hB := hB.trans (ho.toBelow (B := w.heap.size) hz0 (fun b hb => by have := (fr_G.2 b hb).1; omega))
  have hzn := ho.size
  replace hlX0 := Nat.lt_of_lt_of_le hlX0 hzn
  replace hlZT0 := Nat.lt_of_lt_of_le hlZT0 hzn
  replace hh_S := Nat.le_trans hh_S hzn
  replace hh_G := Nat.le_trans hh_G hzn
  replace hz0 := Nat.le_trans hz0 hzn
  clear ho hzn
  have fr_M : True := trivial
  clear r_G fr_G
  have r_G := r_G'
  clear r_G' hfm
  go_wp2_with fail
  refine (heldAtomS_x (Fm.atomsF x0) _ _ 1 _ (by omega) (by omega) r_G).mono ?_
  rintro e wh3 ⟨rfl, hb⟩
  replace r_G := r_G.below hb
  replace X0 := cells_later X0 hlX0 hb
  replace ZT0 := cells_later ZT0 hlZT0 hb
  replace r_S := r_S.below hb
  replace fr_S := fr_S.below hb
  replace hB := hB.trans (hb.mono hz0)
  have hzn := hb.size
  replace hlX0 := Nat.lt_of_lt_of_le hlX0 hzn
  replace hlZT0 := Nat.lt_of_lt_of_le hlZT0 hzn
  replace hh_S := Nat.le_trans hh_S hzn
  replace hz0 := Nat.le_trans hz0 hzn
  clear hb hzn
  have hneg : decide (((1 + cntR ((Fm.atomsF x0).map Atm.cd) : Int)) < 0) = false := by simp; omega
  have hne : ((1 + cntR ((Fm.atomsF x0).map Atm.cd) : Int) != (1 + cntR ((Fm.atomsF x0).map Atm.cd) : Int)) = false := by simp
  go_wp2_with fail
  clear hneg hne
  refine (toForm_x x0 _ _ _ hbig0 (by exact hv0.below hB)).mono ?_
  rintro e wy0 ⟨y0, yf0, rfl, yr0, yg0, hb⟩
  replace r_G := r_G.below hb
  replace X0 := cells_later X0 hlX0 hb
  replace ZT0 := cells_later ZT0 hlZT0 hb
  replace r_S := r_S.below hb
  replace fr_S := fr_S.below hb
  replace hB := hB.trans (hb.mono hz0)
  have hzn := hb.size
  replace hlX0 := Nat.lt_of_lt_of_le hlX0 hzn
  replace hlZT0 := Nat.lt_of_lt_of_le hlZT0 hzn
  replace hh_S := Nat.le_trans hh_S hzn
  replace hz0 := Nat.le_trans hz0 hzn
  clear hb hzn
  go_wp2_with fail
  refine (formAtoms_any x0 _ _ _ hbig0 (by exact yr0)).mono ?_
  rintro e wH ⟨vH, f_H, rfl, r_H, fr_H, hb⟩
  replace r_G := r_G.below hb
  replace X0 := cells_later X0 hlX0 hb
  replace ZT0 := cells_later ZT0 hlZT0 hb
  replace r_S := r_S.below hb
  replace fr_S := fr_S.below hb
  replace hB := hB.trans (hb.mono hz0)
  have hzn := hb.size
  replace hlX0 := Nat.lt_of_lt_of_le hlX0 hzn
  replace hlZT0 := Nat.lt_of_lt_of_le hlZT0 hzn
  replace hh_S := Nat.le_trans hh_S hzn
  replace hz0 := Nat.le_trans hz0 hzn
  clear hb hzn
  go_wp2_with fail
  refine (eqAtomS_x (Fm.atomsF x0) _ _ _ _ _ (by exact r_H) (by exact r_S)).mono ?_
  rintro e we4 ⟨rfl, hb⟩
  replace r_G := r_G.below hb
  replace X0 := cells_later X0 hlX0 hb
  replace ZT0 := cells_later ZT0 hlZT0 hb
  replace r_S := r_S.below hb
  replace fr_S := fr_S.below hb
  replace hB := hB.trans (hb.mono hz0)
  have hzn := hb.size
  replace hlX0 := Nat.lt_of_lt_of_le hlX0 hzn
  replace hlZT0 := Nat.lt_of_lt_of_le hlZT0 hzn
  replace hh_S := Nat.le_trans hh_S hzn
  replace hz0 := Nat.le_trans hz0 hzn
  clear hb hzn
  go_wp2_with fail
  refine (heldAtomS_x (Fm.atomsF x0) _ _ 1 _ (by omega) (by omega) r_G).mono ?_
  rintro e wh5 ⟨rfl, hb⟩
  replace r_G := r_G.below hb
  replace X0 := cells_later X0 hlX0 hb
  replace ZT0 := cells_later ZT0 hlZT0 hb
  replace r_S := r_S.below hb
  replace fr_S := fr_S.below hb
  replace hB := hB.trans (hb.mono hz0)
  have hzn := hb.size
  replace hlX0 := Nat.lt_of_lt_of_le hlX0 hzn
  replace hlZT0 := Nat.lt_of_lt_of_le hlZT0 hzn
  replace hh_S := Nat.le_trans hh_S hzn
  replace hz0 := Nat.le_trans hz0 hzn
  clear hb hzn
  have hneg : decide (((1 + cntR ((Fm.atomsF x0).map Atm.cd) : Int)) < 0) = false := by simp; omega
  have hne : ((1 + cntR ((Fm.atomsF x0).map Atm.cd) : Int) != (1 + cntR ((Fm.atomsF x0).map Atm.cd) : Int)) = false := by simp
  go_wp2_with fail
  clear hneg hne
  go_ret
  exact ⟨rfl, hB⟩
end Go.Proofs.Ytlcfophhjflpdaa
