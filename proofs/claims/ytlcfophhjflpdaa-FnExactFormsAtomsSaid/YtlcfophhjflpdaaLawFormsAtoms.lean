/- The law FnExactFormsAtoms returns true. -/
import Derived.Deep.RegionHeld3
import Derived.Test.YtlcfophhjflpdaaFormU
import Derived.Test.YtlcfophhjflpdaaCnt
import Derived.Test.YtlcfophhjflpdaaExSz
import Derived.Test.YtlcfophhjflpdaaExEq
namespace Go.Proofs.Ytlcfophhjflpdaa
open Go Go.RowKit
set_option linter.unusedVariables false
set_option linter.unusedSimpArgs false
theorem fmsAtoms_cnt (fs : List Fm) : cntR ((fmsAtoms fs).map Atm.cd) ≤ 16 * (fs.length + wtR (fs.map Fm.cd) + wtR (fs.map Fm.cd)) := by
  have h := cntR_wt (f := Atm.cd) (xs := fmsAtoms fs) (fun y _ => Atm.cd_cnt y)
  have h1 := Fm.adds_len fs []
  have h2 := Fm.adds_wt fs []
  simp only [List.length_nil, List.map_nil, wtR, Nat.zero_add] at h1 h2
  cases hok : fmsOk fs
  · rw [fmsAtoms_no hok] at h ⊢; simp [cntR]
  · rw [fmsAtoms_yes hok] at h ⊢; omega
set_option maxHeartbeats 4000000 in
theorem exFormsAtoms_walk (x0 : List Fm) (v0 : Value) (f0 : List Nat) (w : World) (hv0 : Rd w (.sl (x0.map Fm.cd)) v0 f0) :
    Calls Try.prog 4 #[v0] w fun e w' => e = .returned (.bool true) ∧ Below w.heap.size w w' := by
  obtain ⟨p0, q0, rfl, hc0, hd0⟩ := rd_sl_inv hv0
  go_enter Try.func4, Try.ntmps4
  go_wp2_with fail
  refine (szFormS_x x0 _ _ _ _ (by omega) (by omega) (by exact hv0.below (Below.refl _ _))).mono ?_
  rintro e w1 ⟨⟨r0, rfl, hr0⟩, hb⟩
  have hB := hb
  have hz0 := hB.size
  clear hb
  rcases hr0 with ⟨hs0, rfl⟩ | ⟨hs0, rfl⟩
  rotate_left
  · go_wp2_with fail
    go_ret
    exact ⟨rfl, hB⟩
  go_wp2_with fail
  have hbig0 : (x0.length + wtR (x0.map Fm.cd)) ≤ 1048576 := by omega
  clear hs0
  have hrb : cntR ((fmsAtoms x0).map Atm.cd) ≤ 100000000000000 := (by have := fmsAtoms_cnt x0; omega)
  have base_S := hz0
  refine (toFormS_x x0 _ _ _ hbig0 (by exact hv0.below hB)).mono ?_
  rintro e ws0 ⟨s0, sf0, rfl, sr0, sg0, hb⟩
  replace hB := hB.trans (hb.mono hz0)
  have hzn := hb.size
  replace hz0 := Nat.le_trans hz0 hzn
  clear hb hzn
  go_wp2_with fail
  refine (formsAtomsS_any x0 _ _ _ hbig0 (by exact sr0)).mono ?_
  rintro e wS ⟨vS, f_S, rfl, r_S, fr_S, hb⟩
  have hi_S : ∀ b ∈ f_S, b < wS.heap.size := r_S.lt _
  replace hB := hB.trans (hb.mono hz0)
  have hzn := hb.size
  replace hz0 := Nat.le_trans hz0 hzn
  clear hb hzn
  have hh_S : wS.heap.size ≤ wS.heap.size := Nat.le_refl _
  go_wp2_with fail
  have o_S_T0 := hh_S
  have base_T0 := hz0
  refine (toFormS_x x0 _ _ _ hbig0 (by exact hv0.below hB)).mono ?_
  rintro e wt0 ⟨t0, f_T0, rfl, r_T0, fr_T0, hb⟩
  have hi_T0 : ∀ b ∈ f_T0, b < wt0.heap.size := r_T0.lt _
  replace r_S := r_S.below hb
  replace fr_S := fr_S.below hb
  replace hB := hB.trans (hb.mono hz0)
  have hzn := hb.size
  replace hh_S := Nat.le_trans hh_S hzn
  replace hz0 := Nat.le_trans hz0 hzn
  clear hb hzn
  have hh_T0 : wt0.heap.size ≤ wt0.heap.size := Nat.le_refl _
  go_wp2_with fail
  have o_S_G := hh_S
  have o_T0_G := hh_T0
  have base_G := hz0
  refine (formsAtomsI_any x0 _ _ _ hbig0 (by exact r_T0)).mono ?_
  rintro e wG ⟨vG, f_G, rfl, r_G, fr_G, hb⟩
  have hi_G : ∀ b ∈ f_G, b < wG.heap.size := r_G.lt _
  replace r_S := r_S.below hb
  replace fr_S := fr_S.below hb
  replace r_T0 := r_T0.below hb
  replace fr_T0 := fr_T0.below hb
  replace hB := hB.trans (hb.mono hz0)
  have hzn := hb.size
  replace hh_S := Nat.le_trans hh_S hzn
  replace hh_T0 := Nat.le_trans hh_T0 hzn
  replace hz0 := Nat.le_trans hz0 hzn
  clear hb hzn
  have hh_G : wG.heap.size ≤ wG.heap.size := Nat.le_refl _
  go_wp2_with fail
  refine (eqAtomS_x (fmsAtoms x0) _ _ _ _ _ (by exact r_G) (by exact r_S)).mono ?_
  rintro e we1 ⟨rfl, hb⟩
  replace r_S := r_S.below hb
  replace fr_S := fr_S.below hb
  replace r_T0 := r_T0.below hb
  replace fr_T0 := fr_T0.below hb
  replace r_G := r_G.below hb
  replace fr_G := fr_G.below hb
  replace hB := hB.trans (hb.mono hz0)
  have hzn := hb.size
  replace hh_S := Nat.le_trans hh_S hzn
  replace hh_T0 := Nat.le_trans hh_T0 hzn
  replace hh_G := Nat.le_trans hh_G hzn
  replace hz0 := Nat.le_trans hz0 hzn
  clear hb hzn
  go_wp2_with fail
  refine (toFormS_x x0 _ _ _ hbig0 (by exact hv0.below hB)).mono ?_
  rintro e wu0 ⟨u0, uf0, rfl, ur0, ug0, hb⟩
  replace r_S := r_S.below hb
  replace fr_S := fr_S.below hb
  replace r_T0 := r_T0.below hb
  replace fr_T0 := fr_T0.below hb
  replace r_G := r_G.below hb
  replace fr_G := fr_G.below hb
  replace hB := hB.trans (hb.mono hz0)
  have hzn := hb.size
  replace hh_S := Nat.le_trans hh_S hzn
  replace hh_T0 := Nat.le_trans hh_T0 hzn
  replace hh_G := Nat.le_trans hh_G hzn
  replace hz0 := Nat.le_trans hz0 hzn
  clear hb hzn
  go_wp2_with fail
  refine (eqFormS_x x0 _ _ _ _ _ (by exact r_T0) (by exact ur0)).mono ?_
  rintro e wv0 ⟨rfl, hb⟩
  replace r_S := r_S.below hb
  replace fr_S := fr_S.below hb
  replace r_T0 := r_T0.below hb
  replace fr_T0 := fr_T0.below hb
  replace r_G := r_G.below hb
  replace fr_G := fr_G.below hb
  replace hB := hB.trans (hb.mono hz0)
  have hzn := hb.size
  replace hh_S := Nat.le_trans hh_S hzn
  replace hh_T0 := Nat.le_trans hh_T0 hzn
  replace hh_G := Nat.le_trans hh_G hzn
  replace hz0 := Nat.le_trans hz0 hzn
  clear hb hzn
  go_wp2_with fail
  have hcb0 : cntR (x0.map Fm.cd) ≤ 16777216 := by have := cntR_wt (f := Fm.cd) (xs := x0) (fun y _ => Fm.cd_cnt y); omega
  refine (markFormS_x x0 _ _ (1) _ (by omega) (by omega) r_T0 fr_T0.free fr_T0.1).mono ?_
  rintro e wm0 ⟨rfl, _, _, ho⟩
  have so : SameOn f_S _ _ := ho.same (fun b hb => Nat.lt_of_lt_of_le (hi_S b hb) hh_S) (fun b hb hx => by have := hi_S b hb; have := (fr_S.2 b hb).1; have := hi_T0 b hx; have := (fr_T0.2 b hx).1; omega)
  replace r_S := r_S.same _ so
  replace fr_S := fr_S.same so
  clear so
  have so : SameOn f_G _ _ := ho.same (fun b hb => Nat.lt_of_lt_of_le (hi_G b hb) hh_G) (fun b hb hx => by have := hi_G b hb; have := (fr_G.2 b hb).1; have := hi_T0 b hx; have := (fr_T0.2 b hx).1; omega)
  replace r_G := r_G.same _ so
  replace fr_G := fr_G.same so
  clear so
  replace hB := hB.trans (ho.toBelow (B := w.heap.size) hz0 (fun b hb => by have := (fr_T0.2 b hb).1; omega))
  have hzn := ho.size
  replace hh_S := Nat.le_trans hh_S hzn
  replace hh_T0 := Nat.le_trans hh_T0 hzn
  replace hh_G := Nat.le_trans hh_G hzn
  replace hz0 := Nat.le_trans hz0 hzn
  clear ho hzn
  clear r_T0 fr_T0
  have hneg : decide (((1 + cntR (x0.map Fm.cd) : Int)) < 0) = false := by simp; omega
  go_wp2_with fail
  clear hneg
  refine (eqAtomS_x (fmsAtoms x0) _ _ _ _ _ (by exact r_G) (by exact r_S)).mono ?_
  rintro e we2 ⟨rfl, hb⟩
  replace r_S := r_S.below hb
  replace fr_S := fr_S.below hb
  replace r_G := r_G.below hb
  replace fr_G := fr_G.below hb
  replace hB := hB.trans (hb.mono hz0)
  have hzn := hb.size
  replace hh_S := Nat.le_trans hh_S hzn
  replace hh_G := Nat.le_trans hh_G hzn
  replace hz0 := Nat.le_trans hz0 hzn
  clear hb hzn
  go_wp2_with fail
  refine (markAtomS_x (fmsAtoms x0) _ _ 1 _ (by omega) (by omega) r_G fr_G.free fr_G.1).mono ?_
  rintro e wM ⟨rfl, r_G', hfm, ho⟩
  have so : SameOn f_S _ _ := ho.same (fun b hb => Nat.lt_of_lt_of_le (hi_S b hb) hh_S) (fun b hb hx => by have := hi_S b hb; have := (fr_S.2 b hb).1; have := hi_G b hx; have := (fr_G.2 b hx).1; omega)
  replace r_S := r_S.same _ so
  replace fr_S := fr_S.same so
  clear so
  replace hB := hB.trans (ho.toBelow (B := w.heap.size) hz0 (fun b hb => by have := (fr_G.2 b hb).1; omega))
  have hzn := ho.size
  replace hh_S := Nat.le_trans hh_S hzn
  replace hh_G := Nat.le_trans hh_G hzn
  replace hz0 := Nat.le_trans hz0 hzn
  clear ho hzn
  have fr_M : True := trivial
  clear r_G fr_G
  have r_G := r_G'
  clear r_G' hfm
  go_wp2_with fail
  refine (heldAtomS_x (fmsAtoms x0) _ _ 1 _ (by omega) (by omega) r_G).mono ?_
  rintro e wh3 ⟨rfl, hb⟩
  replace r_G := r_G.below hb
  replace r_S := r_S.below hb
  replace fr_S := fr_S.below hb
  replace hB := hB.trans (hb.mono hz0)
  have hzn := hb.size
  replace hh_S := Nat.le_trans hh_S hzn
  replace hz0 := Nat.le_trans hz0 hzn
  clear hb hzn
  have hneg : decide (((1 + cntR ((fmsAtoms x0).map Atm.cd) : Int)) < 0) = false := by simp; omega
  have hne : ((1 + cntR ((fmsAtoms x0).map Atm.cd) : Int) != (1 + cntR ((fmsAtoms x0).map Atm.cd) : Int)) = false := by simp
  go_wp2_with fail
  clear hneg hne
  refine (toFormS_x x0 _ _ _ hbig0 (by exact hv0.below hB)).mono ?_
  rintro e wy0 ⟨y0, yf0, rfl, yr0, yg0, hb⟩
  replace r_G := r_G.below hb
  replace r_S := r_S.below hb
  replace fr_S := fr_S.below hb
  replace hB := hB.trans (hb.mono hz0)
  have hzn := hb.size
  replace hh_S := Nat.le_trans hh_S hzn
  replace hz0 := Nat.le_trans hz0 hzn
  clear hb hzn
  go_wp2_with fail
  refine (formsAtomsI_any x0 _ _ _ hbig0 (by exact yr0)).mono ?_
  rintro e wH ⟨vH, f_H, rfl, r_H, fr_H, hb⟩
  replace r_G := r_G.below hb
  replace r_S := r_S.below hb
  replace fr_S := fr_S.below hb
  replace hB := hB.trans (hb.mono hz0)
  have hzn := hb.size
  replace hh_S := Nat.le_trans hh_S hzn
  replace hz0 := Nat.le_trans hz0 hzn
  clear hb hzn
  go_wp2_with fail
  refine (eqAtomS_x (fmsAtoms x0) _ _ _ _ _ (by exact r_H) (by exact r_S)).mono ?_
  rintro e we4 ⟨rfl, hb⟩
  replace r_G := r_G.below hb
  replace r_S := r_S.below hb
  replace fr_S := fr_S.below hb
  replace hB := hB.trans (hb.mono hz0)
  have hzn := hb.size
  replace hh_S := Nat.le_trans hh_S hzn
  replace hz0 := Nat.le_trans hz0 hzn
  clear hb hzn
  go_wp2_with fail
  refine (heldAtomS_x (fmsAtoms x0) _ _ 1 _ (by omega) (by omega) r_G).mono ?_
  rintro e wh5 ⟨rfl, hb⟩
  replace r_G := r_G.below hb
  replace r_S := r_S.below hb
  replace fr_S := fr_S.below hb
  replace hB := hB.trans (hb.mono hz0)
  have hzn := hb.size
  replace hh_S := Nat.le_trans hh_S hzn
  replace hz0 := Nat.le_trans hz0 hzn
  clear hb hzn
  have hneg : decide (((1 + cntR ((fmsAtoms x0).map Atm.cd) : Int)) < 0) = false := by simp; omega
  have hne : ((1 + cntR ((fmsAtoms x0).map Atm.cd) : Int) != (1 + cntR ((fmsAtoms x0).map Atm.cd) : Int)) = false := by simp
  go_wp2_with fail
  clear hneg hne
  go_ret
  exact ⟨rfl, hB⟩
end Go.Proofs.Ytlcfophhjflpdaa
