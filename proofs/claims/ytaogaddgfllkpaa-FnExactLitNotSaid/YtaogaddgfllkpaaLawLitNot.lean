/- The law FnExactLitNot returns true. -/
import Derived.Deep.RegionHeld3
import Derived.Test.YtaogaddgfllkpaaLitN
import Derived.Test.YtaogaddgfllkpaaCnt
import Derived.Test.YtaogaddgfllkpaaExSz
import Derived.Test.YtaogaddgfllkpaaExEq
namespace Go.Proofs.Ytaogaddgfllkpaa
open Go Go.RowKit
set_option linter.unusedVariables false
set_option linter.unusedSimpArgs false
theorem ltNot_cnt (x : Lt) : cntT x.not.cd ≤ 16 * wtV x.cd + 16 := by
  unfold Lt.not; split
  · have h := Lt.cdT_cnt ⟨x.atom, !x.no⟩
    rw [Lt.cd, wtV_append] at h
    rw [Lt.cd, Lt.cd, wtV_append]
    simp only [wtV_bool] at h ⊢
    omega
  · simp [Lt.zero, Lt.cd, Atm.cd, Tm.cd, cntT, cntR]
theorem Lt.times_of {x : Lt} (h : wtV x.cd ≤ 1048576) : x.atom.times.length ≤ 1048576 := by
  rw [Lt.cd, wtV_append] at h
  simp only [Atm.cd, wtV_append, wtV_int, wtV_bool, wtV_sl, List.length_map] at h
  omega
set_option maxHeartbeats 4000000 in
theorem exLitNot_walk (x0 : Lt) (v0 : List Value) (f0 : List Nat) (w : World) (hv0 : RdVs w x0.cd v0 f0) :
    Calls Try.prog 7 #[.agg v0.toArray] w fun e w' => e = .returned (.bool true) ∧ Below w.heap.size w w' := by
  obtain ⟨a2A0, c2A0, f2A0, a4A0, c4A0, f4A0, a5A0, c5A0, f5A0, a6A0, c6A0, f6A0, rfl, _, _, _, _, _, _, _, _, _⟩ := Lt.open hv0
  go_enter Try.func7, Try.ntmps7
  go_wp2_with fail
  refine (szLit_x x0 _ _ _ _ (by omega) (by omega) (by exact hv0.below (below_alloc _ _))).mono ?_
  rintro e w1 ⟨⟨r0, rfl, hr0⟩, hb⟩
  obtain ⟨X0, hz, hB⟩ := box1 (w := w) (wr := w1) (cs := #[.int .i64 x0.atom.kind, .string x0.atom.a.name, .slice a2A0 x0.atom.a.kids.length c2A0, .string x0.atom.b.name, .slice a4A0 x0.atom.b.kids.length c4A0, .slice a5A0 x0.atom.nums.length c5A0, .slice a6A0 x0.atom.times.length c6A0, .int .i64 x0.atom.bound, .bool x0.atom.strict, .bool x0.no]) (T := 40) (below_size hb (by simp))
  have hz0 := hB.size
  have hlX0 : w.heap.size < w1.heap.size := by omega
  clear hb
  rcases hr0 with ⟨hs0, rfl⟩ | ⟨hs0, rfl⟩
  rotate_left
  · go_wp2_with fail
    go_ret
    exact ⟨rfl, hB⟩
  go_wp2_with fail
  have hbig0 : wtV x0.cd ≤ 1048576 := by omega
  clear hs0
  have hrb : cntT (Lt.not x0).cd ≤ 1000000000000 := (by have := ltNot_cnt x0; omega)
  have o_X0_S := hlX0
  have base_S := hz0
  refine (toLit_x x0 _ _ _ hbig0 (by exact hv0.below hB)).mono ?_
  rintro e ws0 ⟨s0, sf0, rfl, sr0, sg0, hb⟩
  replace X0 := cells_later X0 hlX0 hb
  replace hB := hB.trans (hb.mono hz0)
  have hzn := hb.size
  replace hlX0 := Nat.lt_of_lt_of_le hlX0 hzn
  replace hz0 := Nat.le_trans hz0 hzn
  clear hb hzn
  go_wp2_with fail
  refine (sLitNot_any x0 _ _ _ (Lt.small_of hbig0) (Lt.times_of hbig0) (by exact sr0)).mono ?_
  rintro e wS ⟨vS, f_S, rfl, r_S, fr_S, hb⟩
  have hi_S : ∀ b ∈ f_S, b < wS.heap.size := r_S.lt
  replace X0 := cells_later X0 hlX0 hb
  replace hB := hB.trans (hb.mono hz0)
  have hzn := hb.size
  replace hlX0 := Nat.lt_of_lt_of_le hlX0 hzn
  replace hz0 := Nat.le_trans hz0 hzn
  clear hb hzn
  have hh_S : wS.heap.size ≤ wS.heap.size := Nat.le_refl _
  have r_S' := r_S
  obtain ⟨a2S, c2S, f2S, a4S, c4S, f4S, a5S, c5S, f5S, a6S, c6S, f6S, rfl, _, _, _, _, _, _, _, _, _⟩ := Lt.open r_S'
  have ZS := cell_new wS #[.int .i64 (Lt.not x0).atom.kind, .string (Lt.not x0).atom.a.name, .slice a2S (Lt.not x0).atom.a.kids.length c2S, .string (Lt.not x0).atom.b.name, .slice a4S (Lt.not x0).atom.b.kids.length c4S, .slice a5S (Lt.not x0).atom.nums.length c5S, .slice a6S (Lt.not x0).atom.times.length c6S, .int .i64 (Lt.not x0).atom.bound, .bool (Lt.not x0).atom.strict, .bool (Lt.not x0).no] 49
  have o_S_ZS := hh_S
  have hb := below_alloc wS (.cells #[.int .i64 (Lt.not x0).atom.kind, .string (Lt.not x0).atom.a.name, .slice a2S (Lt.not x0).atom.a.kids.length c2S, .string (Lt.not x0).atom.b.name, .slice a4S (Lt.not x0).atom.b.kids.length c4S, .slice a5S (Lt.not x0).atom.nums.length c5S, .slice a6S (Lt.not x0).atom.times.length c6S, .int .i64 (Lt.not x0).atom.bound, .bool (Lt.not x0).atom.strict, .bool (Lt.not x0).no] 49)
  have hzz : (wS.alloc (.cells #[.int .i64 (Lt.not x0).atom.kind, .string (Lt.not x0).atom.a.name, .slice a2S (Lt.not x0).atom.a.kids.length c2S, .string (Lt.not x0).atom.b.name, .slice a4S (Lt.not x0).atom.b.kids.length c4S, .slice a5S (Lt.not x0).atom.nums.length c5S, .slice a6S (Lt.not x0).atom.times.length c6S, .int .i64 (Lt.not x0).atom.bound, .bool (Lt.not x0).atom.strict, .bool (Lt.not x0).no] 49)).heap.size = wS.heap.size + 1 := by simp
  replace X0 := cells_later X0 hlX0 hb
  replace r_S := r_S.below hb
  replace fr_S := fr_S.below hb
  replace hB := hB.trans (hb.mono hz0)
  have hzn := hb.size
  replace hlX0 := Nat.lt_of_lt_of_le hlX0 hzn
  replace hh_S := Nat.le_trans hh_S hzn
  replace hz0 := Nat.le_trans hz0 hzn
  clear hb hzn
  have hlZS : wS.heap.size < (wS.alloc (.cells #[.int .i64 (Lt.not x0).atom.kind, .string (Lt.not x0).atom.a.name, .slice a2S (Lt.not x0).atom.a.kids.length c2S, .string (Lt.not x0).atom.b.name, .slice a4S (Lt.not x0).atom.b.kids.length c4S, .slice a5S (Lt.not x0).atom.nums.length c5S, .slice a6S (Lt.not x0).atom.times.length c6S, .int .i64 (Lt.not x0).atom.bound, .bool (Lt.not x0).atom.strict, .bool (Lt.not x0).no] 49)).heap.size := by simp
  go_wp2_with fail
  have o_X0_T0 := hlX0
  have o_ZS_T0 := hlZS
  have o_S_T0 := hh_S
  have base_T0 := hz0
  refine (toLit_x x0 _ _ _ hbig0 (by exact hv0.below hB)).mono ?_
  rintro e wt0 ⟨t0, f_T0, rfl, r_T0, fr_T0, hb⟩
  have hi_T0 : ∀ b ∈ f_T0, b < wt0.heap.size := r_T0.lt
  replace X0 := cells_later X0 hlX0 hb
  replace ZS := cells_later ZS hlZS hb
  replace r_S := r_S.below hb
  replace fr_S := fr_S.below hb
  replace hB := hB.trans (hb.mono hz0)
  have hzn := hb.size
  replace hlX0 := Nat.lt_of_lt_of_le hlX0 hzn
  replace hlZS := Nat.lt_of_lt_of_le hlZS hzn
  replace hh_S := Nat.le_trans hh_S hzn
  replace hz0 := Nat.le_trans hz0 hzn
  clear hb hzn
  have hh_T0 : wt0.heap.size ≤ wt0.heap.size := Nat.le_refl _
  have r_T0' := r_T0
  obtain ⟨a2T0, c2T0, f2T0, a4T0, c4T0, f4T0, a5T0, c5T0, f5T0, a6T0, c6T0, f6T0, rfl, _, _, _, _, _, _, _, _, _⟩ := Lt.open r_T0'
  have ZT0 := cell_new wt0 #[.int .i64 x0.atom.kind, .string x0.atom.a.name, .slice a2T0 x0.atom.a.kids.length c2T0, .string x0.atom.b.name, .slice a4T0 x0.atom.b.kids.length c4T0, .slice a5T0 x0.atom.nums.length c5T0, .slice a6T0 x0.atom.times.length c6T0, .int .i64 x0.atom.bound, .bool x0.atom.strict, .bool x0.no] 49
  have o_S_ZT0 := hh_S
  have o_T0_ZT0 := hh_T0
  have hb := below_alloc wt0 (.cells #[.int .i64 x0.atom.kind, .string x0.atom.a.name, .slice a2T0 x0.atom.a.kids.length c2T0, .string x0.atom.b.name, .slice a4T0 x0.atom.b.kids.length c4T0, .slice a5T0 x0.atom.nums.length c5T0, .slice a6T0 x0.atom.times.length c6T0, .int .i64 x0.atom.bound, .bool x0.atom.strict, .bool x0.no] 49)
  have hzz : (wt0.alloc (.cells #[.int .i64 x0.atom.kind, .string x0.atom.a.name, .slice a2T0 x0.atom.a.kids.length c2T0, .string x0.atom.b.name, .slice a4T0 x0.atom.b.kids.length c4T0, .slice a5T0 x0.atom.nums.length c5T0, .slice a6T0 x0.atom.times.length c6T0, .int .i64 x0.atom.bound, .bool x0.atom.strict, .bool x0.no] 49)).heap.size = wt0.heap.size + 1 := by simp
  replace X0 := cells_later X0 hlX0 hb
  replace ZS := cells_later ZS hlZS hb
  replace r_S := r_S.below hb
  replace fr_S := fr_S.below hb
  replace r_T0 := r_T0.below hb
  replace fr_T0 := fr_T0.below hb
  replace hB := hB.trans (hb.mono hz0)
  have hzn := hb.size
  replace hlX0 := Nat.lt_of_lt_of_le hlX0 hzn
  replace hlZS := Nat.lt_of_lt_of_le hlZS hzn
  replace hh_S := Nat.le_trans hh_S hzn
  replace hh_T0 := Nat.le_trans hh_T0 hzn
  replace hz0 := Nat.le_trans hz0 hzn
  clear hb hzn
  have hlZT0 : wt0.heap.size < (wt0.alloc (.cells #[.int .i64 x0.atom.kind, .string x0.atom.a.name, .slice a2T0 x0.atom.a.kids.length c2T0, .string x0.atom.b.name, .slice a4T0 x0.atom.b.kids.length c4T0, .slice a5T0 x0.atom.nums.length c5T0, .slice a6T0 x0.atom.times.length c6T0, .int .i64 x0.atom.bound, .bool x0.atom.strict, .bool x0.no] 49)).heap.size := by simp
  go_wp2_with fail
  have o_X0_G := hlX0
  have o_ZS_G := hlZS
  have o_ZT0_G := hlZT0
  have o_S_G := hh_S
  have o_T0_G := hh_T0
  have base_G := hz0
  refine (litNot_any x0 _ _ _ (Lt.small_of hbig0) (Lt.times_of hbig0) (by exact r_T0)).mono ?_
  rintro e wG ⟨vG, f_G, rfl, r_G, fr_G, hb⟩
  have hi_G : ∀ b ∈ f_G, b < wG.heap.size := r_G.lt
  replace X0 := cells_later X0 hlX0 hb
  replace ZS := cells_later ZS hlZS hb
  replace ZT0 := cells_later ZT0 hlZT0 hb
  replace r_S := r_S.below hb
  replace fr_S := fr_S.below hb
  replace r_T0 := r_T0.below hb
  replace fr_T0 := fr_T0.below hb
  replace hB := hB.trans (hb.mono hz0)
  have hzn := hb.size
  replace hlX0 := Nat.lt_of_lt_of_le hlX0 hzn
  replace hlZS := Nat.lt_of_lt_of_le hlZS hzn
  replace hlZT0 := Nat.lt_of_lt_of_le hlZT0 hzn
  replace hh_S := Nat.le_trans hh_S hzn
  replace hh_T0 := Nat.le_trans hh_T0 hzn
  replace hz0 := Nat.le_trans hz0 hzn
  clear hb hzn
  have hh_G : wG.heap.size ≤ wG.heap.size := Nat.le_refl _
  have r_G' := r_G
  obtain ⟨a2G, c2G, f2G, a4G, c4G, f4G, a5G, c5G, f5G, a6G, c6G, f6G, rfl, _, _, _, _, _, _, _, _, _⟩ := Lt.open r_G'
  have ZG := cell_new wG #[.int .i64 (Lt.not x0).atom.kind, .string (Lt.not x0).atom.a.name, .slice a2G (Lt.not x0).atom.a.kids.length c2G, .string (Lt.not x0).atom.b.name, .slice a4G (Lt.not x0).atom.b.kids.length c4G, .slice a5G (Lt.not x0).atom.nums.length c5G, .slice a6G (Lt.not x0).atom.times.length c6G, .int .i64 (Lt.not x0).atom.bound, .bool (Lt.not x0).atom.strict, .bool (Lt.not x0).no] 49
  have o_S_ZG := hh_S
  have o_T0_ZG := hh_T0
  have o_G_ZG := hh_G
  have hb := below_alloc wG (.cells #[.int .i64 (Lt.not x0).atom.kind, .string (Lt.not x0).atom.a.name, .slice a2G (Lt.not x0).atom.a.kids.length c2G, .string (Lt.not x0).atom.b.name, .slice a4G (Lt.not x0).atom.b.kids.length c4G, .slice a5G (Lt.not x0).atom.nums.length c5G, .slice a6G (Lt.not x0).atom.times.length c6G, .int .i64 (Lt.not x0).atom.bound, .bool (Lt.not x0).atom.strict, .bool (Lt.not x0).no] 49)
  have hzz : (wG.alloc (.cells #[.int .i64 (Lt.not x0).atom.kind, .string (Lt.not x0).atom.a.name, .slice a2G (Lt.not x0).atom.a.kids.length c2G, .string (Lt.not x0).atom.b.name, .slice a4G (Lt.not x0).atom.b.kids.length c4G, .slice a5G (Lt.not x0).atom.nums.length c5G, .slice a6G (Lt.not x0).atom.times.length c6G, .int .i64 (Lt.not x0).atom.bound, .bool (Lt.not x0).atom.strict, .bool (Lt.not x0).no] 49)).heap.size = wG.heap.size + 1 := by simp
  replace X0 := cells_later X0 hlX0 hb
  replace ZS := cells_later ZS hlZS hb
  replace ZT0 := cells_later ZT0 hlZT0 hb
  replace r_S := r_S.below hb
  replace fr_S := fr_S.below hb
  replace r_T0 := r_T0.below hb
  replace fr_T0 := fr_T0.below hb
  replace r_G := r_G.below hb
  replace fr_G := fr_G.below hb
  replace hB := hB.trans (hb.mono hz0)
  have hzn := hb.size
  replace hlX0 := Nat.lt_of_lt_of_le hlX0 hzn
  replace hlZS := Nat.lt_of_lt_of_le hlZS hzn
  replace hlZT0 := Nat.lt_of_lt_of_le hlZT0 hzn
  replace hh_S := Nat.le_trans hh_S hzn
  replace hh_T0 := Nat.le_trans hh_T0 hzn
  replace hh_G := Nat.le_trans hh_G hzn
  replace hz0 := Nat.le_trans hz0 hzn
  clear hb hzn
  have hlZG : wG.heap.size < (wG.alloc (.cells #[.int .i64 (Lt.not x0).atom.kind, .string (Lt.not x0).atom.a.name, .slice a2G (Lt.not x0).atom.a.kids.length c2G, .string (Lt.not x0).atom.b.name, .slice a4G (Lt.not x0).atom.b.kids.length c4G, .slice a5G (Lt.not x0).atom.nums.length c5G, .slice a6G (Lt.not x0).atom.times.length c6G, .int .i64 (Lt.not x0).atom.bound, .bool (Lt.not x0).atom.strict, .bool (Lt.not x0).no] 49)).heap.size := by simp
  go_wp2_with fail
  refine (eqLit_x (Lt.not x0) _ _ _ _ _ (by exact r_G) (by exact r_S)).mono ?_
  rintro e we1 ⟨rfl, hb⟩
  replace X0 := cells_later X0 hlX0 hb
  replace ZS := cells_later ZS hlZS hb
  replace ZT0 := cells_later ZT0 hlZT0 hb
  replace ZG := cells_later ZG hlZG hb
  replace r_S := r_S.below hb
  replace fr_S := fr_S.below hb
  replace r_T0 := r_T0.below hb
  replace fr_T0 := fr_T0.below hb
  replace r_G := r_G.below hb
  replace fr_G := fr_G.below hb
  replace hB := hB.trans (hb.mono hz0)
  have hzn := hb.size
  replace hlX0 := Nat.lt_of_lt_of_le hlX0 hzn
  replace hlZS := Nat.lt_of_lt_of_le hlZS hzn
  replace hlZT0 := Nat.lt_of_lt_of_le hlZT0 hzn
  replace hlZG := Nat.lt_of_lt_of_le hlZG hzn
  replace hh_S := Nat.le_trans hh_S hzn
  replace hh_T0 := Nat.le_trans hh_T0 hzn
  replace hh_G := Nat.le_trans hh_G hzn
  replace hz0 := Nat.le_trans hz0 hzn
  clear hb hzn
  go_wp2_with fail
  have C0_0 := X0 0
  have C0_1 := X0 1
  have C0_2 := X0 2
  have C0_3 := X0 3
  have C0_4 := X0 4
  have C0_5 := X0 5
  have C0_6 := X0 6
  have C0_7 := X0 7
  have C0_8 := X0 8
  have C0_9 := X0 9
  have C1_0 := ZS 0
  have C1_1 := ZS 1
  have C1_2 := ZS 2
  have C1_3 := ZS 3
  have C1_4 := ZS 4
  have C1_5 := ZS 5
  have C1_6 := ZS 6
  have C1_7 := ZS 7
  have C1_8 := ZS 8
  have C1_9 := ZS 9
  have C2_0 := ZT0 0
  have C2_1 := ZT0 1
  have C2_2 := ZT0 2
  have C2_3 := ZT0 3
  have C2_4 := ZT0 4
  have C2_5 := ZT0 5
  have C2_6 := ZT0 6
  have C2_7 := ZT0 7
  have C2_8 := ZT0 8
  have C2_9 := ZT0 9
  have C3_0 := ZG 0
  have C3_1 := ZG 1
  have C3_2 := ZG 2
  have C3_3 := ZG 3
  have C3_4 := ZG 4
  have C3_5 := ZG 5
  have C3_6 := ZG 6
  have C3_7 := ZG 7
  have C3_8 := ZG 8
  have C3_9 := ZG 9
  simp only [List.getElem?_toArray, List.getElem?_cons_zero, List.getElem?_cons_succ] at C0_0 C0_1 C0_2 C0_3 C0_4 C0_5 C0_6 C0_7 C0_8 C0_9 C1_0 C1_1 C1_2 C1_3 C1_4 C1_5 C1_6 C1_7 C1_8 C1_9 C2_0 C2_1 C2_2 C2_3 C2_4 C2_5 C2_6 C2_7 C2_8 C2_9 C3_0 C3_1 C3_2 C3_3 C3_4 C3_5 C3_6 C3_7 C3_8 C3_9
  go_region_held3 (fun W => W.cell? ⟨w.heap.size, 0, none⟩ = some (.int .i64 x0.atom.kind) ∧ W.cell? ⟨w.heap.size, 1, none⟩ = some (.string x0.atom.a.name) ∧ W.cell? ⟨w.heap.size, 2, none⟩ = some (.slice a2A0 x0.atom.a.kids.length c2A0) ∧ W.cell? ⟨w.heap.size, 3, none⟩ = some (.string x0.atom.b.name) ∧ W.cell? ⟨w.heap.size, 4, none⟩ = some (.slice a4A0 x0.atom.b.kids.length c4A0) ∧ W.cell? ⟨w.heap.size, 5, none⟩ = some (.slice a5A0 x0.atom.nums.length c5A0) ∧ W.cell? ⟨w.heap.size, 6, none⟩ = some (.slice a6A0 x0.atom.times.length c6A0) ∧ W.cell? ⟨w.heap.size, 7, none⟩ = some (.int .i64 x0.atom.bound) ∧ W.cell? ⟨w.heap.size, 8, none⟩ = some (.bool x0.atom.strict) ∧ W.cell? ⟨w.heap.size, 9, none⟩ = some (.bool x0.no) ∧ W.cell? ⟨wS.heap.size, 0, none⟩ = some (.int .i64 (Lt.not x0).atom.kind) ∧ W.cell? ⟨wS.heap.size, 1, none⟩ = some (.string (Lt.not x0).atom.a.name) ∧ W.cell? ⟨wS.heap.size, 2, none⟩ = some (.slice a2S (Lt.not x0).atom.a.kids.length c2S) ∧ W.cell? ⟨wS.heap.size, 3, none⟩ = some (.string (Lt.not x0).atom.b.name) ∧ W.cell? ⟨wS.heap.size, 4, none⟩ = some (.slice a4S (Lt.not x0).atom.b.kids.length c4S) ∧ W.cell? ⟨wS.heap.size, 5, none⟩ = some (.slice a5S (Lt.not x0).atom.nums.length c5S) ∧ W.cell? ⟨wS.heap.size, 6, none⟩ = some (.slice a6S (Lt.not x0).atom.times.length c6S) ∧ W.cell? ⟨wS.heap.size, 7, none⟩ = some (.int .i64 (Lt.not x0).atom.bound) ∧ W.cell? ⟨wS.heap.size, 8, none⟩ = some (.bool (Lt.not x0).atom.strict) ∧ W.cell? ⟨wS.heap.size, 9, none⟩ = some (.bool (Lt.not x0).no) ∧ W.cell? ⟨wt0.heap.size, 0, none⟩ = some (.int .i64 x0.atom.kind) ∧ W.cell? ⟨wt0.heap.size, 1, none⟩ = some (.string x0.atom.a.name) ∧ W.cell? ⟨wt0.heap.size, 2, none⟩ = some (.slice a2T0 x0.atom.a.kids.length c2T0) ∧ W.cell? ⟨wt0.heap.size, 3, none⟩ = some (.string x0.atom.b.name) ∧ W.cell? ⟨wt0.heap.size, 4, none⟩ = some (.slice a4T0 x0.atom.b.kids.length c4T0) ∧ W.cell? ⟨wt0.heap.size, 5, none⟩ = some (.slice a5T0 x0.atom.nums.length c5T0) ∧ W.cell? ⟨wt0.heap.size, 6, none⟩ = some (.slice a6T0 x0.atom.times.length c6T0) ∧ W.cell? ⟨wt0.heap.size, 7, none⟩ = some (.int .i64 x0.atom.bound) ∧ W.cell? ⟨wt0.heap.size, 8, none⟩ = some (.bool x0.atom.strict) ∧ W.cell? ⟨wt0.heap.size, 9, none⟩ = some (.bool x0.no) ∧ W.cell? ⟨wG.heap.size, 0, none⟩ = some (.int .i64 (Lt.not x0).atom.kind) ∧ W.cell? ⟨wG.heap.size, 1, none⟩ = some (.string (Lt.not x0).atom.a.name) ∧ W.cell? ⟨wG.heap.size, 2, none⟩ = some (.slice a2G (Lt.not x0).atom.a.kids.length c2G) ∧ W.cell? ⟨wG.heap.size, 3, none⟩ = some (.string (Lt.not x0).atom.b.name) ∧ W.cell? ⟨wG.heap.size, 4, none⟩ = some (.slice a4G (Lt.not x0).atom.b.kids.length c4G) ∧ W.cell? ⟨wG.heap.size, 5, none⟩ = some (.slice a5G (Lt.not x0).atom.nums.length c5G) ∧ W.cell? ⟨wG.heap.size, 6, none⟩ = some (.slice a6G (Lt.not x0).atom.times.length c6G) ∧ W.cell? ⟨wG.heap.size, 7, none⟩ = some (.int .i64 (Lt.not x0).atom.bound) ∧ W.cell? ⟨wG.heap.size, 8, none⟩ = some (.bool (Lt.not x0).atom.strict) ∧ W.cell? ⟨wG.heap.size, 9, none⟩ = some (.bool (Lt.not x0).no) ∧ Below w.heap.size w W)
    (first | exact ⟨C0_0, C0_1, C0_2, C0_3, C0_4, C0_5, C0_6, C0_7, C0_8, C0_9, C1_0, C1_1, C1_2, C1_3, C1_4, C1_5, C1_6, C1_7, C1_8, C1_9, C2_0, C2_1, C2_2, C2_3, C2_4, C2_5, C2_6, C2_7, C2_8, C2_9, C3_0, C3_1, C3_2, C3_3, C3_4, C3_5, C3_6, C3_7, C3_8, C3_9, hB.drew⟩ | (refine ⟨?_, ?_, ?_, ?_, ?_, ?_, ?_, ?_, ?_, ?_, ?_, ?_, ?_, ?_, ?_, ?_, ?_, ?_, ?_, ?_, ?_, ?_, ?_, ?_, ?_, ?_, ?_, ?_, ?_, ?_, ?_, ?_, ?_, ?_, ?_, ?_, ?_, ?_, ?_, ?_, hB.trans ((below_undrew' hbE0).mono hB.size)⟩ <;> (refine (cell_keep ?_ (below_undrew' hbE0)); assumption)) | (refine (cell_keep ?_ (below_undrew' hbE0)); assumption) | exact hB.trans ((below_undrew' hbE0).mono hB.size) | (refine ⟨?_, ?_, ?_, ?_, ?_, ?_, ?_, ?_, ?_, ?_, ?_, ?_, ?_, ?_, ?_, ?_, ?_, ?_, ?_, ?_, ?_, ?_, ?_, ?_, ?_, ?_, ?_, ?_, ?_, ?_, ?_, ?_, ?_, ?_, ?_, ?_, ?_, ?_, ?_, ?_, (hB.trans ((below_undrew' hbE0).mono hB.size)).trans (hbF0.mono (hB.trans ((below_undrew' hbE0).mono hB.size)).size)⟩ <;> (refine (cell_keep (cell_keep ?_ (below_undrew' hbE0)) hbF0); assumption)) | (refine (cell_keep (cell_keep ?_ (below_undrew' hbE0)) hbF0); assumption) | exact (hB.trans ((below_undrew' hbE0).mono hB.size)).trans (hbF0.mono (hB.trans ((below_undrew' hbE0).mono hB.size)).size))
    (first | (go_at_call 26; (with_reducible refine (toLit_x x0 _ _ _ hbig0 (by exact hv0.below (hB.drew))).mono ?_); rintro e wE0 ⟨u0, uf0, rfl, ur0, ug0, hbE0⟩) | (go_at_call 29; (with_reducible refine (eqLit_x x0 _ _ _ _ _ (by exact r_T0.below ((below_undrew' hbE0))) (by exact ur0)).mono ?_); rintro e wF0 ⟨rfl, hbF0⟩))
  have hb := below_undrew' hbE0
  clear hbE0
  replace X0 := cells_later X0 hlX0 hb
  replace ZS := cells_later ZS hlZS hb
  replace ZT0 := cells_later ZT0 hlZT0 hb
  replace ZG := cells_later ZG hlZG hb
  replace r_S := r_S.below hb
  replace fr_S := fr_S.below hb
  replace r_T0 := r_T0.below hb
  replace fr_T0 := fr_T0.below hb
  replace r_G := r_G.below hb
  replace fr_G := fr_G.below hb
  replace hB := hB.trans (hb.mono hz0)
  have hzn := hb.size
  replace hlX0 := Nat.lt_of_lt_of_le hlX0 hzn
  replace hlZS := Nat.lt_of_lt_of_le hlZS hzn
  replace hlZT0 := Nat.lt_of_lt_of_le hlZT0 hzn
  replace hlZG := Nat.lt_of_lt_of_le hlZG hzn
  replace hh_S := Nat.le_trans hh_S hzn
  replace hh_T0 := Nat.le_trans hh_T0 hzn
  replace hh_G := Nat.le_trans hh_G hzn
  replace hz0 := Nat.le_trans hz0 hzn
  clear hb hzn
  have hb := hbF0
  clear hbF0
  replace X0 := cells_later X0 hlX0 hb
  replace ZS := cells_later ZS hlZS hb
  replace ZT0 := cells_later ZT0 hlZT0 hb
  replace ZG := cells_later ZG hlZG hb
  replace r_S := r_S.below hb
  replace fr_S := fr_S.below hb
  replace r_T0 := r_T0.below hb
  replace fr_T0 := fr_T0.below hb
  replace r_G := r_G.below hb
  replace fr_G := fr_G.below hb
  replace hB := hB.trans (hb.mono hz0)
  have hzn := hb.size
  replace hlX0 := Nat.lt_of_lt_of_le hlX0 hzn
  replace hlZS := Nat.lt_of_lt_of_le hlZS hzn
  replace hlZT0 := Nat.lt_of_lt_of_le hlZT0 hzn
  replace hlZG := Nat.lt_of_lt_of_le hlZG hzn
  replace hh_S := Nat.le_trans hh_S hzn
  replace hh_T0 := Nat.le_trans hh_T0 hzn
  replace hh_G := Nat.le_trans hh_G hzn
  replace hz0 := Nat.le_trans hz0 hzn
  clear hb hzn
  clear C0_0 C0_1 C0_2 C0_3 C0_4 C0_5 C0_6 C0_7 C0_8 C0_9 C1_0 C1_1 C1_2 C1_3 C1_4 C1_5 C1_6 C1_7 C1_8 C1_9 C2_0 C2_1 C2_2 C2_3 C2_4 C2_5 C2_6 C2_7 C2_8 C2_9 C3_0 C3_1 C3_2 C3_3 C3_4 C3_5 C3_6 C3_7 C3_8 C3_9
  go_wp2_with fail
  have hcb0 : cntT x0.cd ≤ 16777216 := by have := Lt.cdT_cnt x0; omega
  refine (markLit_x x0 _ _ (1) _ (by omega) (by omega) (by exact r_T0) fr_T0.free fr_T0.1).mono ?_
  rintro e wm0 ⟨rfl, _, _, ho⟩
  replace X0 := MkV.cells ho hlX0 (fun h => by have := (fr_T0.2 _ h).1; have := hi_T0 _ h; omega) X0
  replace ZS := MkV.cells ho hlZS (fun h => by have := (fr_T0.2 _ h).1; have := hi_T0 _ h; omega) ZS
  replace ZT0 := MkV.cells ho hlZT0 (fun h => by have := (fr_T0.2 _ h).1; have := hi_T0 _ h; omega) ZT0
  replace ZG := MkV.cells ho hlZG (fun h => by have := (fr_T0.2 _ h).1; have := hi_T0 _ h; omega) ZG
  have so : SameOn f_S _ _ := ho.same (fun b hb => Nat.lt_of_lt_of_le (hi_S b hb) hh_S) (fun b hb hx => by have := hi_S b hb; have := (fr_S.2 b hb).1; have := hi_T0 b hx; have := (fr_T0.2 b hx).1; omega)
  replace r_S := r_S.same _ so
  replace fr_S := fr_S.same so
  clear so
  have so : SameOn f_G _ _ := ho.same (fun b hb => Nat.lt_of_lt_of_le (hi_G b hb) hh_G) (fun b hb hx => by have := hi_G b hb; have := (fr_G.2 b hb).1; have := hi_T0 b hx; have := (fr_T0.2 b hx).1; omega)
  replace r_G := r_G.same _ so
  replace fr_G := fr_G.same so
  clear so
  replace hB := hB.trans (ho.toBelow (B := w.heap.size) hz0 (fun b hb => by have := (fr_T0.2 b hb).1; omega))
  have hzn := ho.size
  replace hlX0 := Nat.lt_of_lt_of_le hlX0 hzn
  replace hlZS := Nat.lt_of_lt_of_le hlZS hzn
  replace hlZT0 := Nat.lt_of_lt_of_le hlZT0 hzn
  replace hlZG := Nat.lt_of_lt_of_le hlZG hzn
  replace hh_S := Nat.le_trans hh_S hzn
  replace hh_T0 := Nat.le_trans hh_T0 hzn
  replace hh_G := Nat.le_trans hh_G hzn
  replace hz0 := Nat.le_trans hz0 hzn
  clear ho hzn
  clear r_T0 fr_T0
  have hneg : decide (((1 + cntT x0.cd : Int)) < 0) = false := by simp; omega
  go_wp2_with fail
  clear hneg
  refine (eqLit_x (Lt.not x0) _ _ _ _ _ (by exact r_G) (by exact r_S)).mono ?_
  rintro e we2 ⟨rfl, hb⟩
  replace X0 := cells_later X0 hlX0 hb
  replace ZS := cells_later ZS hlZS hb
  replace ZT0 := cells_later ZT0 hlZT0 hb
  replace ZG := cells_later ZG hlZG hb
  replace r_S := r_S.below hb
  replace fr_S := fr_S.below hb
  replace r_G := r_G.below hb
  replace fr_G := fr_G.below hb
  replace hB := hB.trans (hb.mono hz0)
  have hzn := hb.size
  replace hlX0 := Nat.lt_of_lt_of_le hlX0 hzn
  replace hlZS := Nat.lt_of_lt_of_le hlZS hzn
  replace hlZT0 := Nat.lt_of_lt_of_le hlZT0 hzn
  replace hlZG := Nat.lt_of_lt_of_le hlZG hzn
  replace hh_S := Nat.le_trans hh_S hzn
  replace hh_G := Nat.le_trans hh_G hzn
  replace hz0 := Nat.le_trans hz0 hzn
  clear hb hzn
  go_wp2_with fail
  refine (markLit_x (Lt.not x0) _ _ 1 _ (by omega) (by omega) (by exact r_G) fr_G.free fr_G.1).mono ?_
  rintro e wM ⟨rfl, r_G', hfm, ho⟩
  replace X0 := MkV.cells ho hlX0 (fun h => by have := (fr_G.2 _ h).1; have := hi_G _ h; omega) X0
  replace ZS := MkV.cells ho hlZS (fun h => by have := (fr_G.2 _ h).1; have := hi_G _ h; omega) ZS
  replace ZT0 := MkV.cells ho hlZT0 (fun h => by have := (fr_G.2 _ h).1; have := hi_G _ h; omega) ZT0
  replace ZG := MkV.cells ho hlZG (fun h => by have := (fr_G.2 _ h).1; have := hi_G _ h; omega) ZG
  have so : SameOn f_S _ _ := ho.same (fun b hb => Nat.lt_of_lt_of_le (hi_S b hb) hh_S) (fun b hb hx => by have := hi_S b hb; have := (fr_S.2 b hb).1; have := hi_G b hx; have := (fr_G.2 b hx).1; omega)
  replace r_S := r_S.same _ so
  replace fr_S := fr_S.same so
  clear so
  replace hB := hB.trans (ho.toBelow (B := w.heap.size) hz0 (fun b hb => by have := (fr_G.2 b hb).1; omega))
  have hzn := ho.size
  replace hlX0 := Nat.lt_of_lt_of_le hlX0 hzn
  replace hlZS := Nat.lt_of_lt_of_le hlZS hzn
  replace hlZT0 := Nat.lt_of_lt_of_le hlZT0 hzn
  replace hlZG := Nat.lt_of_lt_of_le hlZG hzn
  replace hh_S := Nat.le_trans hh_S hzn
  replace hh_G := Nat.le_trans hh_G hzn
  replace hz0 := Nat.le_trans hz0 hzn
  clear ho hzn
  have fr_M : True := trivial
  clear r_G fr_G
  have r_G := r_G'
  clear r_G' hfm
  go_wp2_with fail
  refine (heldLit_x (Lt.not x0) _ _ _ _ _ _ _ _ _ 1 _ (by omega) (by omega) (by exact r_G)).mono ?_
  rintro e wh3 ⟨rfl, hb⟩
  replace r_G := r_G.below hb
  replace X0 := cells_later X0 hlX0 hb
  replace ZS := cells_later ZS hlZS hb
  replace ZT0 := cells_later ZT0 hlZT0 hb
  replace ZG := cells_later ZG hlZG hb
  replace r_S := r_S.below hb
  replace fr_S := fr_S.below hb
  replace hB := hB.trans (hb.mono hz0)
  have hzn := hb.size
  replace hlX0 := Nat.lt_of_lt_of_le hlX0 hzn
  replace hlZS := Nat.lt_of_lt_of_le hlZS hzn
  replace hlZT0 := Nat.lt_of_lt_of_le hlZT0 hzn
  replace hlZG := Nat.lt_of_lt_of_le hlZG hzn
  replace hh_S := Nat.le_trans hh_S hzn
  replace hz0 := Nat.le_trans hz0 hzn
  clear hb hzn
  have hneg : decide (((1 + cntT (Lt.not x0).cd : Int)) < 0) = false := by simp; omega
  have hne : ((1 + cntT (Lt.not x0).cd : Int) != (1 + cntT (Lt.not x0).cd : Int)) = false := by simp
  go_wp2_with fail
  clear hneg hne
  refine (toLit_x x0 _ _ _ hbig0 (by exact hv0.below hB)).mono ?_
  rintro e wy0 ⟨y0, yf0, rfl, yr0, yg0, hb⟩
  replace r_G := r_G.below hb
  replace X0 := cells_later X0 hlX0 hb
  replace ZS := cells_later ZS hlZS hb
  replace ZT0 := cells_later ZT0 hlZT0 hb
  replace ZG := cells_later ZG hlZG hb
  replace r_S := r_S.below hb
  replace fr_S := fr_S.below hb
  replace hB := hB.trans (hb.mono hz0)
  have hzn := hb.size
  replace hlX0 := Nat.lt_of_lt_of_le hlX0 hzn
  replace hlZS := Nat.lt_of_lt_of_le hlZS hzn
  replace hlZT0 := Nat.lt_of_lt_of_le hlZT0 hzn
  replace hlZG := Nat.lt_of_lt_of_le hlZG hzn
  replace hh_S := Nat.le_trans hh_S hzn
  replace hz0 := Nat.le_trans hz0 hzn
  clear hb hzn
  go_wp2_with fail
  refine (litNot_any x0 _ _ _ (Lt.small_of hbig0) (Lt.times_of hbig0) (by exact yr0)).mono ?_
  rintro e wH ⟨vH, f_H, rfl, r_H, fr_H, hb⟩
  replace r_G := r_G.below hb
  replace X0 := cells_later X0 hlX0 hb
  replace ZS := cells_later ZS hlZS hb
  replace ZT0 := cells_later ZT0 hlZT0 hb
  replace ZG := cells_later ZG hlZG hb
  replace r_S := r_S.below hb
  replace fr_S := fr_S.below hb
  replace hB := hB.trans (hb.mono hz0)
  have hzn := hb.size
  replace hlX0 := Nat.lt_of_lt_of_le hlX0 hzn
  replace hlZS := Nat.lt_of_lt_of_le hlZS hzn
  replace hlZT0 := Nat.lt_of_lt_of_le hlZT0 hzn
  replace hlZG := Nat.lt_of_lt_of_le hlZG hzn
  replace hh_S := Nat.le_trans hh_S hzn
  replace hz0 := Nat.le_trans hz0 hzn
  clear hb hzn
  have r_H' := r_H
  obtain ⟨a2H, c2H, f2H, a4H, c4H, f4H, a5H, c5H, f5H, a6H, c6H, f6H, rfl, _, _, _, _, _, _, _, _, _⟩ := Lt.open r_H'
  have ZH := cell_new wH #[.int .i64 (Lt.not x0).atom.kind, .string (Lt.not x0).atom.a.name, .slice a2H (Lt.not x0).atom.a.kids.length c2H, .string (Lt.not x0).atom.b.name, .slice a4H (Lt.not x0).atom.b.kids.length c4H, .slice a5H (Lt.not x0).atom.nums.length c5H, .slice a6H (Lt.not x0).atom.times.length c6H, .int .i64 (Lt.not x0).atom.bound, .bool (Lt.not x0).atom.strict, .bool (Lt.not x0).no] 49
  have hb := below_alloc wH (.cells #[.int .i64 (Lt.not x0).atom.kind, .string (Lt.not x0).atom.a.name, .slice a2H (Lt.not x0).atom.a.kids.length c2H, .string (Lt.not x0).atom.b.name, .slice a4H (Lt.not x0).atom.b.kids.length c4H, .slice a5H (Lt.not x0).atom.nums.length c5H, .slice a6H (Lt.not x0).atom.times.length c6H, .int .i64 (Lt.not x0).atom.bound, .bool (Lt.not x0).atom.strict, .bool (Lt.not x0).no] 49)
  have hzz : (wH.alloc (.cells #[.int .i64 (Lt.not x0).atom.kind, .string (Lt.not x0).atom.a.name, .slice a2H (Lt.not x0).atom.a.kids.length c2H, .string (Lt.not x0).atom.b.name, .slice a4H (Lt.not x0).atom.b.kids.length c4H, .slice a5H (Lt.not x0).atom.nums.length c5H, .slice a6H (Lt.not x0).atom.times.length c6H, .int .i64 (Lt.not x0).atom.bound, .bool (Lt.not x0).atom.strict, .bool (Lt.not x0).no] 49)).heap.size = wH.heap.size + 1 := by simp
  replace r_H := r_H.below hb
  replace r_G := r_G.below hb
  replace X0 := cells_later X0 hlX0 hb
  replace ZS := cells_later ZS hlZS hb
  replace ZT0 := cells_later ZT0 hlZT0 hb
  replace ZG := cells_later ZG hlZG hb
  replace r_S := r_S.below hb
  replace fr_S := fr_S.below hb
  replace hB := hB.trans (hb.mono hz0)
  have hzn := hb.size
  replace hlX0 := Nat.lt_of_lt_of_le hlX0 hzn
  replace hlZS := Nat.lt_of_lt_of_le hlZS hzn
  replace hlZT0 := Nat.lt_of_lt_of_le hlZT0 hzn
  replace hlZG := Nat.lt_of_lt_of_le hlZG hzn
  replace hh_S := Nat.le_trans hh_S hzn
  replace hz0 := Nat.le_trans hz0 hzn
  clear hb hzn
  have hlZH : wH.heap.size < (wH.alloc (.cells #[.int .i64 (Lt.not x0).atom.kind, .string (Lt.not x0).atom.a.name, .slice a2H (Lt.not x0).atom.a.kids.length c2H, .string (Lt.not x0).atom.b.name, .slice a4H (Lt.not x0).atom.b.kids.length c4H, .slice a5H (Lt.not x0).atom.nums.length c5H, .slice a6H (Lt.not x0).atom.times.length c6H, .int .i64 (Lt.not x0).atom.bound, .bool (Lt.not x0).atom.strict, .bool (Lt.not x0).no] 49)).heap.size := by simp
  go_wp2_with fail
  refine (eqLit_x (Lt.not x0) _ _ _ _ _ (by exact r_H) (by exact r_S)).mono ?_
  rintro e we4 ⟨rfl, hb⟩
  replace r_G := r_G.below hb
  replace X0 := cells_later X0 hlX0 hb
  replace ZS := cells_later ZS hlZS hb
  replace ZT0 := cells_later ZT0 hlZT0 hb
  replace ZG := cells_later ZG hlZG hb
  replace ZH := cells_later ZH hlZH hb
  replace r_S := r_S.below hb
  replace fr_S := fr_S.below hb
  replace hB := hB.trans (hb.mono hz0)
  have hzn := hb.size
  replace hlX0 := Nat.lt_of_lt_of_le hlX0 hzn
  replace hlZS := Nat.lt_of_lt_of_le hlZS hzn
  replace hlZT0 := Nat.lt_of_lt_of_le hlZT0 hzn
  replace hlZG := Nat.lt_of_lt_of_le hlZG hzn
  replace hlZH := Nat.lt_of_lt_of_le hlZH hzn
  replace hh_S := Nat.le_trans hh_S hzn
  replace hz0 := Nat.le_trans hz0 hzn
  clear hb hzn
  go_wp2_with fail
  refine (heldLit_x (Lt.not x0) _ _ _ _ _ _ _ _ _ 1 _ (by omega) (by omega) (by exact r_G)).mono ?_
  rintro e wh5 ⟨rfl, hb⟩
  replace r_G := r_G.below hb
  replace X0 := cells_later X0 hlX0 hb
  replace ZS := cells_later ZS hlZS hb
  replace ZT0 := cells_later ZT0 hlZT0 hb
  replace ZG := cells_later ZG hlZG hb
  replace ZH := cells_later ZH hlZH hb
  replace r_S := r_S.below hb
  replace fr_S := fr_S.below hb
  replace hB := hB.trans (hb.mono hz0)
  have hzn := hb.size
  replace hlX0 := Nat.lt_of_lt_of_le hlX0 hzn
  replace hlZS := Nat.lt_of_lt_of_le hlZS hzn
  replace hlZT0 := Nat.lt_of_lt_of_le hlZT0 hzn
  replace hlZG := Nat.lt_of_lt_of_le hlZG hzn
  replace hlZH := Nat.lt_of_lt_of_le hlZH hzn
  replace hh_S := Nat.le_trans hh_S hzn
  replace hz0 := Nat.le_trans hz0 hzn
  clear hb hzn
  have hneg : decide (((1 + cntT (Lt.not x0).cd : Int)) < 0) = false := by simp; omega
  have hne : ((1 + cntT (Lt.not x0).cd : Int) != (1 + cntT (Lt.not x0).cd : Int)) = false := by simp
  go_wp2_with fail
  clear hneg hne
  go_ret
  exact ⟨rfl, hB⟩
end Go.Proofs.Ytaogaddgfllkpaa
