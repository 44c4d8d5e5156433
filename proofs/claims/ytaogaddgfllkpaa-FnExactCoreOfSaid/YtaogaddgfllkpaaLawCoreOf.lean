/- The law FnExactCoreOf returns true. -/
import Derived.Deep.RegionHeld3
import Derived.Test.YtaogaddgfllkpaaCoreW
import Derived.Test.YtaogaddgfllkpaaCnt
import Derived.Test.YtaogaddgfllkpaaExSz
import Derived.Test.YtaogaddgfllkpaaExEq
namespace Go.Proofs.Ytaogaddgfllkpaa
open Go Go.RowKit
set_option linter.unusedVariables false
set_option linter.unusedSimpArgs false
set_option maxHeartbeats 4000000 in
theorem exCoreOf_walk (x0 : List Fm) (v0 : Value) (f0 : List Nat) (x1 : List Int) (v1 : Value) (f1 : List Nat) (w : World) (hv0 : Rd w (.sl (x0.map Fm.cd)) v0 f0) (hv1 : Rd w (.sl (x1.map intCd)) v1 f1) :
    Calls Try.prog 3 #[v0, v1] w fun e w' => e = .returned (.bool true) ∧ Below w.heap.size w w' := by
  obtain ⟨p0, q0, rfl, hc0, hd0⟩ := rd_sl_inv hv0
  obtain ⟨p1, q1, rfl, hc1, hd1⟩ := rd_sl_inv hv1
  by_cases hlen1 : x1.length ≤ 1048576
  rotate_left
  · have hlb : decide ((1048576 : Int) < (x1.length : Int)) = true := by simp; omega
    go_enter Try.func3, Try.ntmps3
    go_wp2_with fail
    go_ret
    exact ⟨rfl, (Below.refl _ _)⟩
  have hlb1 : decide ((1048576 : Int) < (x1.length : Int)) = false := by simp; omega
  go_enter Try.func3, Try.ntmps3
  go_wp2_with fail
  refine (szFormS_x x0 _ _ _ _ (by omega) (by omega) (by exact hv0.below (Below.refl _ _))).mono ?_
  rintro e w1 ⟨⟨r0, rfl, hr0⟩, hb⟩
  have hB := hb
  have hz0 := hB.size
  clear hb
  rcases hr0 with ⟨hs0, rfl⟩ | ⟨hs0, rfl⟩
  rotate_left
  · go_wp2_with fail
    go_ret
    exact ⟨rfl, hB⟩
  go_wp2_with fail
  have hbig0 : (x0.length + wtR (x0.map Fm.cd)) ≤ 1048576 := by omega
  have hbig1 : x1.length + wtR (x1.map intCd) ≤ 1048576 := by rw [wtR_ints]; omega
  clear hs0
  have hrb : cntR ((coreOf x0 x1).map Fm.cd) ≤ 100000000000000 := (Nat.le_trans (coreOf_cnt x0 x1) (Nat.le_trans (Nat.mul_le_mul hlen1 (by omega : 16 + 16 * wtR (x0.map Fm.cd) ≤ 16777232)) (by omega)))
  have base_S := hz0
  refine (toFormS_x x0 _ _ _ hbig0 (by exact hv0.below hB)).mono ?_
  rintro e ws0 ⟨s0, sf0, rfl, sr0, sg0, hb⟩
  replace hB := hB.trans (hb.mono hz0)
  have hzn := hb.size
  replace hz0 := Nat.le_trans hz0 hzn
  clear hb hzn
  go_wp2_with fail
  refine (toIntS_x x1 _ _ _ hbig1 (by exact hv1.below hB)).mono ?_
  rintro e ws1 ⟨s1, sf1, rfl, sr1, sg1, hb⟩
  replace sr0 := sr0.below hb
  replace hB := hB.trans (hb.mono hz0)
  have hzn := hb.size
  replace hz0 := Nat.le_trans hz0 hzn
  clear hb hzn
  go_wp2_with fail
  refine (sCoreOf_any x0 x1 _ _ _ _ _ hbig0 hlen1 (by exact sr0) (by exact sr1)).mono ?_
  rintro e wS ⟨vS, f_S, rfl, r_S, fr_S, hb⟩
  have hi_S : ∀ b ∈ f_S, b < wS.heap.size := r_S.lt _
  replace hB := hB.trans (hb.mono hz0)
  have hzn := hb.size
  replace hz0 := Nat.le_trans hz0 hzn
  clear hb hzn
  have hh_S : wS.heap.size ≤ wS.heap.size := Nat.le_refl _
  go_wp2_with fail
  have o_S_T0 := hh_S
  have base_T0 := hz0
  refine (toFormS_x x0 _ _ _ hbig0 (by exact hv0.below hB)).mono ?_
  rintro e wt0 ⟨t0, f_T0, rfl, r_T0, fr_T0, hb⟩
  have hi_T0 : ∀ b ∈ f_T0, b < wt0.heap.size := r_T0.lt _
  replace r_S := r_S.below hb
  replace fr_S := fr_S.below hb
  replace hB := hB.trans (hb.mono hz0)
  have hzn := hb.size
  replace hh_S := Nat.le_trans hh_S hzn
  replace hz0 := Nat.le_trans hz0 hzn
  clear hb hzn
  have hh_T0 : wt0.heap.size ≤ wt0.heap.size := Nat.le_refl _
  go_wp2_with fail
  have o_S_T1 := hh_S
  have o_T0_T1 := hh_T0
  have base_T1 := hz0
  refine (toIntS_x x1 _ _ _ hbig1 (by exact hv1.below hB)).mono ?_
  rintro e wt1 ⟨t1, f_T1, rfl, r_T1, fr_T1, hb⟩
  have hi_T1 : ∀ b ∈ f_T1, b < wt1.heap.size := r_T1.lt _
  replace r_S := r_S.below hb
  replace fr_S := fr_S.below hb
  replace r_T0 := r_T0.below hb
  replace fr_T0 := fr_T0.below hb
  replace hB := hB.trans (hb.mono hz0)
  have hzn := hb.size
  replace hh_S := Nat.le_trans hh_S hzn
  replace hh_T0 := Nat.le_trans hh_T0 hzn
  replace hz0 := Nat.le_trans hz0 hzn
  clear hb hzn
  have hh_T1 : wt1.heap.size ≤ wt1.heap.size := Nat.le_refl _
  go_wp2_with fail
  have o_S_G := hh_S
  have o_T0_G := hh_T0
  have o_T1_G := hh_T1
  have base_G := hz0
  refine (coreOf_any x0 x1 _ _ _ _ _ hbig0 hlen1 (by exact r_T0) (by exact r_T1)).mono ?_
  rintro e wG ⟨vG, f_G, rfl, r_G, fr_G, hb⟩
  have hi_G : ∀ b ∈ f_G, b < wG.heap.size := r_G.lt _
  replace r_S := r_S.below hb
  replace fr_S := fr_S.below hb
  replace r_T0 := r_T0.below hb
  replace fr_T0 := fr_T0.below hb
  replace r_T1 := r_T1.below hb
  replace fr_T1 := fr_T1.below hb
  replace hB := hB.trans (hb.mono hz0)
  have hzn := hb.size
  replace hh_S := Nat.le_trans hh_S hzn
  replace hh_T0 := Nat.le_trans hh_T0 hzn
  replace hh_T1 := Nat.le_trans hh_T1 hzn
  replace hz0 := Nat.le_trans hz0 hzn
  clear hb hzn
  have hh_G : wG.heap.size ≤ wG.heap.size := Nat.le_refl _
  go_wp2_with fail
  refine (eqFormS_x (coreOf x0 x1) _ _ _ _ _ (by exact r_G) (by exact r_S)).mono ?_
  rintro e we1 ⟨rfl, hb⟩
  replace r_S := r_S.below hb
  replace fr_S := fr_S.below hb
  replace r_T0 := r_T0.below hb
  replace fr_T0 := fr_T0.below hb
  replace r_T1 := r_T1.below hb
  replace fr_T1 := fr_T1.below hb
  replace r_G := r_G.below hb
  replace fr_G := fr_G.below hb
  replace hB := hB.trans (hb.mono hz0)
  have hzn := hb.size
  replace hh_S := Nat.le_trans hh_S hzn
  replace hh_T0 := Nat.le_trans hh_T0 hzn
  replace hh_T1 := Nat.le_trans hh_T1 hzn
  replace hh_G := Nat.le_trans hh_G hzn
  replace hz0 := Nat.le_trans hz0 hzn
  clear hb hzn
  go_wp2_with fail
  refine (toFormS_x x0 _ _ _ hbig0 (by exact hv0.below hB)).mono ?_
  rintro e wu0 ⟨u0, uf0, rfl, ur0, ug0, hb⟩
  replace r_S := r_S.below hb
  replace fr_S := fr_S.below hb
  replace r_T0 := r_T0.below hb
  replace fr_T0 := fr_T0.below hb
  replace r_T1 := r_T1.below hb
  replace fr_T1 := fr_T1.below hb
  replace r_G := r_G.below hb
  replace fr_G := fr_G.below hb
  replace hB := hB.trans (hb.mono hz0)
  have hzn := hb.size
  replace hh_S := Nat.le_trans hh_S hzn
  replace hh_T0 := Nat.le_trans hh_T0 hzn
  replace hh_T1 := Nat.le_trans hh_T1 hzn
  replace hh_G := Nat.le_trans hh_G hzn
  replace hz0 := Nat.le_trans hz0 hzn
  clear hb hzn
  go_wp2_with fail
  refine (eqFormS_x x0 _ _ _ _ _ (by exact r_T0) (by exact ur0)).mono ?_
  rintro e wv0 ⟨rfl, hb⟩
  replace r_S := r_S.below hb
  replace fr_S := fr_S.below hb
  replace r_T0 := r_T0.below hb
  replace fr_T0 := fr_T0.below hb
  replace r_T1 := r_T1.below hb
  replace fr_T1 := fr_T1.below hb
  replace r_G := r_G.below hb
  replace fr_G := fr_G.below hb
  replace hB := hB.trans (hb.mono hz0)
  have hzn := hb.size
  replace hh_S := Nat.le_trans hh_S hzn
  replace hh_T0 := Nat.le_trans hh_T0 hzn
  replace hh_T1 := Nat.le_trans hh_T1 hzn
  replace hh_G := Nat.le_trans hh_G hzn
  replace hz0 := Nat.le_trans hz0 hzn
  clear hb hzn
  go_wp2_with fail
  refine (toIntS_x x1 _ _ _ hbig1 (by exact hv1.below hB)).mono ?_
  rintro e wu1 ⟨u1, uf1, rfl, ur1, ug1, hb⟩
  replace r_S := r_S.below hb
  replace fr_S := fr_S.below hb
  replace r_T0 := r_T0.below hb
  replace fr_T0 := fr_T0.below hb
  replace r_T1 := r_T1.below hb
  replace fr_T1 := fr_T1.below hb
  replace r_G := r_G.below hb
  replace fr_G := fr_G.below hb
  replace hB := hB.trans (hb.mono hz0)
  have hzn := hb.size
  replace hh_S := Nat.le_trans hh_S hzn
  replace hh_T0 := Nat.le_trans hh_T0 hzn
  replace hh_T1 := Nat.le_trans hh_T1 hzn
  replace hh_G := Nat.le_trans hh_G hzn
  replace hz0 := Nat.le_trans hz0 hzn
  clear hb hzn
  go_wp2_with fail
  refine (eqIntS_x x1 _ _ _ _ _ (by exact r_T1) (by exact ur1)).mono ?_
  rintro e wv1 ⟨rfl, hb⟩
  replace r_S := r_S.below hb
  replace fr_S := fr_S.below hb
  replace r_T0 := r_T0.below hb
  replace fr_T0 := fr_T0.below hb
  replace r_T1 := r_T1.below hb
  replace fr_T1 := fr_T1.below hb
  replace r_G := r_G.below hb
  replace fr_G := fr_G.below hb
  replace hB := hB.trans (hb.mono hz0)
  have hzn := hb.size
  replace hh_S := Nat.le_trans hh_S hzn
  replace hh_T0 := Nat.le_trans hh_T0 hzn
  replace hh_T1 := Nat.le_trans hh_T1 hzn
  replace hh_G := Nat.le_trans hh_G hzn
  replace hz0 := Nat.le_trans hz0 hzn
  clear hb hzn
  go_wp2_with fail
  have hcb0 : cntR (x0.map Fm.cd) ≤ 16777216 := by have := cntR_wt (f := Fm.cd) (xs := x0) (fun y _ => Fm.cd_cnt y); omega
  refine (markFormS_x x0 _ _ (1) _ (by omega) (by omega) r_T0 fr_T0.free fr_T0.1).mono ?_
  rintro e wm0 ⟨rfl, _, _, ho⟩
  have so : SameOn f_S _ _ := ho.same (fun b hb => Nat.lt_of_lt_of_le (hi_S b hb) hh_S) (fun b hb hx => by have := hi_S b hb; have := (fr_S.2 b hb).1; have := hi_T0 b hx; have := (fr_T0.2 b hx).1; omega)
  replace r_S := r_S.same _ so
  replace fr_S := fr_S.same so
  clear so
  have so : SameOn f_T1 _ _ := ho.same (fun b hb => Nat.lt_of_lt_of_le (hi_T1 b hb) hh_T1) (fun b hb hx => by have := hi_T1 b hb; have := (fr_T1.2 b hb).1; have := hi_T0 b hx; have := (fr_T0.2 b hx).1; omega)
  replace r_T1 := r_T1.same _ so
  replace fr_T1 := fr_T1.same so
  clear so
  have so : SameOn f_G _ _ := ho.same (fun b hb => Nat.lt_of_lt_of_le (hi_G b hb) hh_G) (fun b hb hx => by have := hi_G b hb; have := (fr_G.2 b hb).1; have := hi_T0 b hx; have := (fr_T0.2 b hx).1; omega)
  replace r_G := r_G.same _ so
  replace fr_G := fr_G.same so
  clear so
  replace hB := hB.trans (ho.toBelow (B := w.heap.size) hz0 (fun b hb => by have := (fr_T0.2 b hb).1; omega))
  have hzn := ho.size
  replace hh_S := Nat.le_trans hh_S hzn
  replace hh_T0 := Nat.le_trans hh_T0 hzn
  replace hh_T1 := Nat.le_trans hh_T1 hzn
  replace hh_G := Nat.le_trans hh_G hzn
  replace hz0 := Nat.le_trans hz0 hzn
  clear ho hzn
  clear r_T0 fr_T0
  go_wp2_with fail
  have hcb1 : cntR (x1.map intCd) ≤ 16777216 := by have := cntR_wt (f := intCd) (xs := x1) (fun y _ => intCd_cnt y); omega
  refine (markIntS_x x1 _ _ (1 + cntR (x0.map Fm.cd)) _ (by omega) (by omega) r_T1 fr_T1.free fr_T1.1).mono ?_
  rintro e wm1 ⟨rfl, _, _, ho⟩
  have so : SameOn f_S _ _ := ho.same (fun b hb => Nat.lt_of_lt_of_le (hi_S b hb) hh_S) (fun b hb hx => by have := hi_S b hb; have := (fr_S.2 b hb).1; have := hi_T1 b hx; have := (fr_T1.2 b hx).1; omega)
  replace r_S := r_S.same _ so
  replace fr_S := fr_S.same so
  clear so
  have so : SameOn f_G _ _ := ho.same (fun b hb => Nat.lt_of_lt_of_le (hi_G b hb) hh_G) (fun b hb hx => by have := hi_G b hb; have := (fr_G.2 b hb).1; have := hi_T1 b hx; have := (fr_T1.2 b hx).1; omega)
  replace r_G := r_G.same _ so
  replace fr_G := fr_G.same so
  clear so
  replace hB := hB.trans (ho.toBelow (B := w.heap.size) hz0 (fun b hb => by have := (fr_T1.2 b hb).1; omega))
  have hzn := ho.size
  replace hh_S := Nat.le_trans hh_S hzn
  replace hh_T1 := Nat.le_trans hh_T1 hzn
  replace hh_G := Nat.le_trans hh_G hzn
  replace hz0 := Nat.le_trans hz0 hzn
  clear ho hzn
  clear r_T1 fr_T1
  have hneg : decide (((1 + cntR (x0.map Fm.cd) + cntR (x1.map intCd) : Int)) < 0) = false := by simp; omega
  go_wp2_with fail
  clear hneg
  refine (eqFormS_x (coreOf x0 x1) _ _ _ _ _ (by exact r_G) (by exact r_S)).mono ?_
  rintro e we2 ⟨rfl, hb⟩
  replace r_S := r_S.below hb
  replace fr_S := fr_S.below hb
  replace r_G := r_G.below hb
  replace fr_G := fr_G.below hb
  replace hB := hB.trans (hb.mono hz0)
  have hzn := hb.size
  replace hh_S := Nat.le_trans hh_S hzn
  replace hh_G := Nat.le_trans hh_G hzn
  replace hz0 := Nat.le_trans hz0 hzn
  clear hb hzn
  go_wp2_with fail
  refine (markFormS_x (coreOf x0 x1) _ _ 1 _ (by omega) (by omega) r_G fr_G.free fr_G.1).mono ?_
  rintro e wM ⟨rfl, r_G', hfm, ho⟩
  have so : SameOn f_S _ _ := ho.same (fun b hb => Nat.lt_of_lt_of_le (hi_S b hb) hh_S) (fun b hb hx => by have := hi_S b hb; have := (fr_S.2 b hb).1; have := hi_G b hx; have := (fr_G.2 b hx).1; omega)
  replace r_S := r_S.same _ so
  replace fr_S := fr_S.same so
  clear so
  replace hB := hB.trans (ho.toBelow (B := w.heap.size) hz0 (fun b hb => by have := (fr_G.2 b hb).1; omega))
  have hzn := ho.size
  replace hh_S := Nat.le_trans hh_S hzn
  replace hh_G := Nat.le_trans hh_G hzn
  replace hz0 := Nat.le_trans hz0 hzn
  clear ho hzn
  have fr_M : True := trivial
  clear r_G fr_G
  have r_G := r_G'
  clear r_G' hfm
  go_wp2_with fail
  refine (heldFormS_x (coreOf x0 x1) _ _ 1 _ (by omega) (by omega) r_G).mono ?_
  rintro e wh3 ⟨rfl, hb⟩
  replace r_G := r_G.below hb
  replace r_S := r_S.below hb
  replace fr_S := fr_S.below hb
  replace hB := hB.trans (hb.mono hz0)
  have hzn := hb.size
  replace hh_S := Nat.le_trans hh_S hzn
  replace hz0 := Nat.le_trans hz0 hzn
  clear hb hzn
  have hneg : decide (((1 + cntR ((coreOf x0 x1).map Fm.cd) : Int)) < 0) = false := by simp; omega
  have hne : ((1 + cntR ((coreOf x0 x1).map Fm.cd) : Int) != (1 + cntR ((coreOf x0 x1).map Fm.cd) : Int)) = false := by simp
  go_wp2_with fail
  clear hneg hne
  refine (toFormS_x x0 _ _ _ hbig0 (by exact hv0.below hB)).mono ?_
  rintro e wy0 ⟨y0, yf0, rfl, yr0, yg0, hb⟩
  replace r_G := r_G.below hb
  replace r_S := r_S.below hb
  replace fr_S := fr_S.below hb
  replace hB := hB.trans (hb.mono hz0)
  have hzn := hb.size
  replace hh_S := Nat.le_trans hh_S hzn
  replace hz0 := Nat.le_trans hz0 hzn
  clear hb hzn
  go_wp2_with fail
  refine (toIntS_x x1 _ _ _ hbig1 (by exact hv1.below hB)).mono ?_
  rintro e wy1 ⟨y1, yf1, rfl, yr1, yg1, hb⟩
  replace yr0 := yr0.below hb
  replace r_G := r_G.below hb
  replace r_S := r_S.below hb
  replace fr_S := fr_S.below hb
  replace hB := hB.trans (hb.mono hz0)
  have hzn := hb.size
  replace hh_S := Nat.le_trans hh_S hzn
  replace hz0 := Nat.le_trans hz0 hzn
  clear hb hzn
  go_wp2_with fail
  refine (coreOf_any x0 x1 _ _ _ _ _ hbig0 hlen1 (by exact yr0) (by exact yr1)).mono ?_
  rintro e wH ⟨vH, f_H, rfl, r_H, fr_H, hb⟩
  replace r_G := r_G.below hb
  replace r_S := r_S.below hb
  replace fr_S := fr_S.below hb
  replace hB := hB.trans (hb.mono hz0)
  have hzn := hb.size
  replace hh_S := Nat.le_trans hh_S hzn
  replace hz0 := Nat.le_trans hz0 hzn
  clear hb hzn
  go_wp2_with fail
  refine (eqFormS_x (coreOf x0 x1) _ _ _ _ _ (by exact r_H) (by exact r_S)).mono ?_
  rintro e we4 ⟨rfl, hb⟩
  replace r_G := r_G.below hb
  replace r_S := r_S.below hb
  replace fr_S := fr_S.below hb
  replace hB := hB.trans (hb.mono hz0)
  have hzn := hb.size
  replace hh_S := Nat.le_trans hh_S hzn
  replace hz0 := Nat.le_trans hz0 hzn
  clear hb hzn
  go_wp2_with fail
  refine (heldFormS_x (coreOf x0 x1) _ _ 1 _ (by omega) (by omega) r_G).mono ?_
  rintro e wh5 ⟨rfl, hb⟩
  replace r_G := r_G.below hb
  replace r_S := r_S.below hb
  replace fr_S := fr_S.below hb
  replace hB := hB.trans (hb.mono hz0)
  have hzn := hb.size
  replace hh_S := Nat.le_trans hh_S hzn
  replace hz0 := Nat.le_trans hz0 hzn
  clear hb hzn
  have hneg : decide (((1 + cntR ((coreOf x0 x1).map Fm.cd) : Int)) < 0) = false := by simp; omega
  have hne : ((1 + cntR ((coreOf x0 x1).map Fm.cd) : Int) != (1 + cntR ((coreOf x0 x1).map Fm.cd) : Int)) = false := by simp
  go_wp2_with fail
  clear hneg hne
  go_ret
  exact ⟨rfl, hB⟩
end Go.Proofs.Ytaogaddgfllkpaa
