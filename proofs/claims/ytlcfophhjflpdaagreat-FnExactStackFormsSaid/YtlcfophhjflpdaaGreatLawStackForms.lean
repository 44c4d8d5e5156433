import Derived.Test.YtlcfophhjflpdaaGreatStkO
import Derived.Deep.RegionHeld3
import Derived.Test.YtlcfophhjflpdaaGreatCnt
import Derived.Test.YtlcfophhjflpdaaGreatExSz
import Derived.Test.YtlcfophhjflpdaaGreatExTo
import Derived.Test.YtlcfophhjflpdaaGreatExEq
/- The assertions of a stack, copied: both sides. -/
namespace Go.Proofs.YtlcfophhjflpdaaGreat
open Go Go.RowKit
set_option linter.unusedVariables false
set_option linter.unusedSimpArgs false

def stkFms (k : Stk) : List Fm := if k.okK then k.levels.flatten else []
theorem stkFms_no {k : Stk} (h : k.okK = false) : stkFms k = [] := by unfold stkFms; rw [h]; rfl
theorem stkFms_yes {k : Stk} (h : k.okK = true) : stkFms k = k.levels.flatten := by unfold stkFms; rw [h]; rfl
theorem rd_sl0 {w : World} {α : Type} {cd : α → List CD} (a : Option Addr) : Rd w (.sl (([] : List α).map cd)) (.slice a 0 0) [] := by
  simp only [List.map_nil, Rd]; exact ⟨a, 0, rfl, by simp, by simp [maxLen], by simp⟩
set_option maxHeartbeats 4000000 in
theorem stackForms_any (k : Stk) (vs : List Value) (f : List Nat) (w : World) (hbig : wtV k.cd ≤ 1048576) (hv : RdVs w k.cd vs f) :
    Calls Tryz.prog 29 #[.agg vs.toArray] w (ToOut (.sl ((stkFms k).map Fm.cd)) w) := by
  have hv0 := hv
  obtain ⟨a0, c0, f0, a1, c1, f1, rfl, _, m0, m1⟩ := Stk.open hv
  have hfb := Stk.flat_big hbig
  have hb0 := below_alloc w (.cells #[.slice a0 k.sig.syms.length c0, .slice a1 k.levels.length c1] 69)
  go_enter Tryz.func29, Tryz.ntmps29
  go_wp2_with fail
  refine (stackOk_any k _ _ _ hbig (by exact hv0.below hb0)).mono ?_
  rintro e w1 ⟨rfl, hb1⟩
  obtain ⟨hx, hz1, hB⟩ := box1 (w := w) (wr := w1) (cs := #[.slice a0 k.sig.syms.length c0, .slice a1 k.levels.length c1]) (T := 69) (below_size hb1 (by simp))
  have X0 := hx 0
  have X1 := hx 1
  simp only [List.getElem?_toArray, List.getElem?_cons_zero, List.getElem?_cons_succ] at X0 X1
  clear hb1 hx
  cases hok : k.okK
  · have HE := Lib.hid (stkFms_no hok)
    clear hok
    go_wp2_with fail
    go_ret
    exact ⟨_, [], rfl, by rw [HE.out]; exact rd_sl0 _, Fresh.nil _ _, hB⟩
  · have HE := Lib.hid (stkFms_yes hok)
    clear hok
    go_wp2_with fail
    refine (forms_any k _ _ _ hfb (by exact hv0.below hB)).mono ?_
    rintro e w2 ⟨⟨rv, rf, rfl, hr⟩, hb2⟩
    have hB2 := hB.trans (hb2.mono (by omega))
    have hz2 := hb2.size
    clear hb2 X0 X1
    obtain ⟨fs, hfs⟩ : ∃ fs, fs = k.levels.flatten := ⟨_, rfl⟩
    have HE2 : Hid (stkFms k = fs) := Lib.hid (by rw [HE.out, hfs])
    rw [← hfs] at hr hfb
    clear hfs
    obtain ⟨ra, rc, rfl, _, _⟩ := rd_sl_inv hr
    go_wp2_with fail
    refine (ownForms_x fs _ _ _ hfb (by exact hr)).mono ?_
    rintro e w3 ⟨kv, fp, rfl, hr3, hf3, hb3⟩
    obtain ⟨ka, kc, rfl, _, _⟩ := rd_sl_inv hr3
    have hB3 := hB2.trans (hb3.mono (by omega))
    go_wp2_with fail
    go_ret
    exact ⟨_, fp, rfl, by rw [HE2.out]; exact hr3, hf3.mono (by omega), hB3⟩
set_option maxHeartbeats 4000000 in
theorem stackFormsS_any (k : Stk) (vs : List Value) (f : List Nat) (w : World) (hbig : wtV k.cd ≤ 1048576) (hv : RdVs w k.cd vs f) :
    Calls Tryz.prog 28 #[.agg vs.toArray] w (ToOut (.sl ((stkFms k).map Fm.cd)) w) := by
  have hv0 := hv
  obtain ⟨a0, c0, f0, a1, c1, f1, rfl, _, m0, m1⟩ := Stk.open hv
  have hfb := Stk.flat_big hbig
  have hb0 := below_alloc w (.cells #[.slice a0 k.sig.syms.length c0, .slice a1 k.levels.length c1] 69)
  go_enter Tryz.func28, Tryz.ntmps28
  go_wp2_with fail
  refine (stackOkS_any k _ _ _ hbig (by exact hv0.below hb0)).mono ?_
  rintro e w1 ⟨rfl, hb1⟩
  obtain ⟨hx, hz1, hB⟩ := box1 (w := w) (wr := w1) (cs := #[.slice a0 k.sig.syms.length c0, .slice a1 k.levels.length c1]) (T := 69) (below_size hb1 (by simp))
  have X0 := hx 0
  have X1 := hx 1
  simp only [List.getElem?_toArray, List.getElem?_cons_zero, List.getElem?_cons_succ] at X0 X1
  clear hb1 hx
  cases hok : k.okK
  · have HE := Lib.hid (stkFms_no hok)
    clear hok
    go_wp2_with fail
    go_ret
    exact ⟨_, [], rfl, by rw [HE.out]; exact rd_sl0 _, Fresh.nil _ _, hB.alloc (by omega) _⟩
  · have HE := Lib.hid (stkFms_yes hok)
    clear hok
    go_wp2_with fail
    refine (l14Forms_any k _ _ _ hfb (by exact hv0.below hB)).mono ?_
    rintro e w2 ⟨⟨rv, rf, rfl, hr⟩, hb2⟩
    have hB2 := hB.trans (hb2.mono (by omega))
    have hz2 := hb2.size
    clear hb2 X0 X1
    obtain ⟨fs, hfs⟩ : ∃ fs, fs = k.levels.flatten := ⟨_, rfl⟩
    have HE2 : Hid (stkFms k = fs) := Lib.hid (by rw [HE.out, hfs])
    rw [← hfs] at hr hfb
    clear hfs
    obtain ⟨ra, rc, rfl, _, _⟩ := rd_sl_inv hr
    go_wp2_with fail
    refine (l14Level_x fs _ _ _ hfb (by exact hr)).mono ?_
    rintro e w3 ⟨kv, fp, rfl, hr3, hf3, hb3⟩
    obtain ⟨ka, kc, rfl, _, _⟩ := rd_sl_inv hr3
    have hB3 := hB2.trans (hb3.mono (by omega))
    go_wp2_with fail
    go_ret
    exact ⟨_, fp, rfl, by rw [HE2.out]; exact hr3, hf3.mono (by omega), hB3⟩
end Go.Proofs.YtlcfophhjflpdaaGreat
/- The law FnExactStackForms returns true. -/
namespace Go.Proofs.YtlcfophhjflpdaaGreat
open Go Go.RowKit
set_option linter.unusedVariables false
set_option linter.unusedSimpArgs false
theorem stkFms_cnt (k : Stk) : cntR ((stkFms k).map Fm.cd) ≤ 16 * wtV k.cd := by
  have h := cntR_wt (f := Fm.cd) (xs := stkFms k) (fun y _ => Fm.cd_cnt y)
  cases hok : k.okK
  · rw [stkFms_no hok] at h ⊢; simp [cntR]
  · rw [stkFms_yes hok] at h ⊢
    have h1 := flat_wt k.levels
    have h2 : wtR (k.levels.map fmsCd) ≤ wtV k.cd := by rw [Stk.cd]; simp only [wtV_append, wtV_sl]; omega
    omega
set_option maxHeartbeats 4000000 in
theorem exStackForms_walk (x0 : Stk) (v0 : List Value) (f0 : List Nat) (w : World) (hv0 : RdVs w x0.cd v0 f0) :
    Calls Tryz.prog 6 #[.agg v0.toArray] w fun e w' => e = .returned (.bool true) ∧ Below w.heap.size w w' := by
  obtain ⟨a0A0, c0A0, f0A0, a1A0, c1A0, f1A0, rfl, _, _, _⟩ := Stk.open hv0
  go_enter Tryz.func6, Tryz.ntmps6
  go_wp2_with fail
  refine (szStack_x x0 _ _ _ _ (by omega) (by omega) (by exact hv0.below (below_alloc _ _))).mono ?_
  rintro e w1 ⟨⟨r0, rfl, hr0⟩, hb⟩
  obtain ⟨X0, hz, hB⟩ := box1 (w := w) (wr := w1) (cs := #[.slice a0A0 x0.sig.syms.length c0A0, .slice a1A0 x0.levels.length c1A0]) (T := 64) (below_size hb (by simp))
  have hz0 := hB.size
  have hlX0 : w.heap.size < w1.heap.size := by omega
  clear hb
  rcases hr0 with ⟨hs0, rfl⟩ | ⟨hs0, rfl⟩
  rotate_left
  · go_wp2_with fail
    go_ret
    exact ⟨rfl, hB⟩
  go_wp2_with fail
  have hbig0 : wtV x0.cd ≤ 1048576 := by omega
  clear hs0
  have hrb : cntR ((stkFms x0).map Fm.cd) ≤ 100000000000000 := (by have := stkFms_cnt x0; omega)
  have o_X0_S := hlX0
  have base_S := hz0
  refine (toStack_x x0 _ _ _ hbig0 (by exact hv0.below hB)).mono ?_
  rintro e ws0 ⟨s0, sf0, rfl, sr0, sg0, hb⟩
  replace X0 := cells_later X0 hlX0 hb
  replace hB := hB.trans (hb.mono hz0)
  have hzn := hb.size
  replace hlX0 := Nat.lt_of_lt_of_le hlX0 hzn
  replace hz0 := Nat.le_trans hz0 hzn
  clear hb hzn
  go_wp2_with fail
  refine (stackFormsS_any x0 _ _ _ hbig0 (by exact sr0)).mono ?_
  rintro e wS ⟨vS, f_S, rfl, r_S, fr_S, hb⟩
  have hi_S : ∀ b ∈ f_S, b < wS.heap.size := r_S.lt _
  replace X0 := cells_later X0 hlX0 hb
  replace hB := hB.trans (hb.mono hz0)
  have hzn := hb.size
  replace hlX0 := Nat.lt_of_lt_of_le hlX0 hzn
  replace hz0 := Nat.le_trans hz0 hzn
  clear hb hzn
  have hh_S : wS.heap.size ≤ wS.heap.size := Nat.le_refl _
  go_wp2_with fail
  have o_X0_T0 := hlX0
  have o_S_T0 := hh_S
  have base_T0 := hz0
  refine (toStack_x x0 _ _ _ hbig0 (by exact hv0.below hB)).mono ?_
  rintro e wt0 ⟨t0, f_T0, rfl, r_T0, fr_T0, hb⟩
  have hi_T0 : ∀ b ∈ f_T0, b < wt0.heap.size := r_T0.lt
  replace X0 := cells_later X0 hlX0 hb
  replace r_S := r_S.below hb
  replace fr_S := fr_S.below hb
  replace hB := hB.trans (hb.mono hz0)
  have hzn := hb.size
  replace hlX0 := Nat.lt_of_lt_of_le hlX0 hzn
  replace hh_S := Nat.le_trans hh_S hzn
  replace hz0 := Nat.le_trans hz0 hzn
  clear hb hzn
  have hh_T0 : wt0.heap.size ≤ wt0.heap.size := Nat.le_refl _
  have r_T0' := r_T0
  obtain ⟨a0T0, c0T0, f0T0, a1T0, c1T0, f1T0, rfl, _, _, _⟩ := Stk.open r_T0'
  have ZT0 := cell_new wt0 #[.slice a0T0 x0.sig.syms.length c0T0, .slice a1T0 x0.levels.length c1T0] 69
  have o_S_ZT0 := hh_S
  have o_T0_ZT0 := hh_T0
  have hb := below_alloc wt0 (.cells #[.slice a0T0 x0.sig.syms.length c0T0, .slice a1T0 x0.levels.length c1T0] 69)
  have hzz : (wt0.alloc (.cells #[.slice a0T0 x0.sig.syms.length c0T0, .slice a1T0 x0.levels.length c1T0] 69)).heap.size = wt0.heap.size + 1 := by simp
  replace X0 := cells_later X0 hlX0 hb
  replace r_S := r_S.below hb
  replace fr_S := fr_S.below hb
  replace r_T0 := r_T0.below hb
  replace fr_T0 := fr_T0.below hb
  replace hB := hB.trans (hb.mono hz0)
  have hzn := hb.size
  replace hlX0 := Nat.lt_of_lt_of_le hlX0 hzn
  replace hh_S := Nat.le_trans hh_S hzn
  replace hh_T0 := Nat.le_trans hh_T0 hzn
  replace hz0 := Nat.le_trans hz0 hzn
  clear hb hzn
  have hlZT0 : wt0.heap.size < (wt0.alloc (.cells #[.slice a0T0 x0.sig.syms.length c0T0, .slice a1T0 x0.levels.length c1T0] 69)).heap.size := by simp
  go_wp2_with fail
  have o_X0_G := hlX0
  have o_ZT0_G := hlZT0
  have o_S_G := hh_S
  have o_T0_G := hh_T0
  have base_G := hz0
  refine (stackForms_any x0 _ _ _ hbig0 (by exact r_T0)).mono ?_
  rintro e wG ⟨vG, f_G, rfl, r_G, fr_G, hb⟩
  have hi_G : ∀ b ∈ f_G, b < wG.heap.size := r_G.lt _
  replace X0 := cells_later X0 hlX0 hb
  replace ZT0 := cells_later ZT0 hlZT0 hb
  replace r_S := r_S.below hb
  replace fr_S := fr_S.below hb
  replace r_T0 := r_T0.below hb
  replace fr_T0 := fr_T0.below hb
  replace hB := hB.trans (hb.mono hz0)
  have hzn := hb.size
  replace hlX0 := Nat.lt_of_lt_of_le hlX0 hzn
  replace hlZT0 := Nat.lt_of_lt_of_le hlZT0 hzn
  replace hh_S := Nat.le_trans hh_S hzn
  replace hh_T0 := Nat.le_trans hh_T0 hzn
  replace hz0 := Nat.le_trans hz0 hzn
  clear hb hzn
  have hh_G : wG.heap.size ≤ wG.heap.size := Nat.le_refl _
  go_wp2_with fail
  refine (eqFormS_x (stkFms x0) _ _ _ _ _ (by exact r_G) (by exact r_S)).mono ?_
  rintro e we1 ⟨rfl, hb⟩
  replace X0 := cells_later X0 hlX0 hb
  replace ZT0 := cells_later ZT0 hlZT0 hb
  replace r_S := r_S.below hb
  replace fr_S := fr_S.below hb
  replace r_T0 := r_T0.below hb
  replace fr_T0 := fr_T0.below hb
  replace r_G := r_G.below hb
  replace fr_G := fr_G.below hb
  replace hB := hB.trans (hb.mono hz0)
  have hzn := hb.size
  replace hlX0 := Nat.lt_of_lt_of_le hlX0 hzn
  replace hlZT0 := Nat.lt_of_lt_of_le hlZT0 hzn
  replace hh_S := Nat.le_trans hh_S hzn
  replace hh_T0 := Nat.le_trans hh_T0 hzn
  replace hh_G := Nat.le_trans hh_G hzn
  replace hz0 := Nat.le_trans hz0 hzn
  clear hb hzn
  go_wp2_with fail
  have C0_0 := X0 0
  have C0_1 := X0 1
  have C1_0 := ZT0 0
  have C1_1 := ZT0 1
  simp only [List.getElem?_toArray, List.getElem?_cons_zero, List.getElem?_cons_succ] at C0_0 C0_1 C1_0 C1_1
  go_region_held3 (fun W => W.cell? ⟨w.heap.size, 0, none⟩ = some (.slice a0A0 x0.sig.syms.length c0A0) ∧ W.cell? ⟨w.heap.size, 1, none⟩ = some (.slice a1A0 x0.levels.length c1A0) ∧ W.cell? ⟨wt0.heap.size, 0, none⟩ = some (.slice a0T0 x0.sig.syms.length c0T0) ∧ W.cell? ⟨wt0.heap.size, 1, none⟩ = some (.slice a1T0 x0.levels.length c1T0) ∧ Below w.heap.size w W)
    (first | exact ⟨C0_0, C0_1, C1_0, C1_1, hB.drew⟩ | (refine ⟨?_, ?_, ?_, ?_, hB.trans ((below_undrew' hbE0).mono hB.size)⟩ <;> (refine (cell_keep ?_ (below_undrew' hbE0)); assumption)) | (refine (cell_keep ?_ (below_undrew' hbE0)); assumption) | exact hB.trans ((below_undrew' hbE0).mono hB.size) | (refine ⟨?_, ?_, ?_, ?_, (hB.trans ((below_undrew' hbE0).mono hB.size)).trans (hbF0.mono (hB.trans ((below_undrew' hbE0).mono hB.size)).size)⟩ <;> (refine (cell_keep (cell_keep ?_ (below_undrew' hbE0)) hbF0); assumption)) | (refine (cell_keep (cell_keep ?_ (below_undrew' hbE0)) hbF0); assumption) | exact (hB.trans ((below_undrew' hbE0).mono hB.size)).trans (hbF0.mono (hB.trans ((below_undrew' hbE0).mono hB.size)).size))
    (first | (go_at_call 25; (with_reducible refine (toStack_x x0 _ _ _ hbig0 (by exact hv0.below (hB.drew))).mono ?_); rintro e wE0 ⟨u0, uf0, rfl, ur0, ug0, hbE0⟩) | (go_at_call 27; (with_reducible refine (eqStack_x x0 _ _ _ _ _ (by exact r_T0.below ((below_undrew' hbE0))) (by exact ur0)).mono ?_); rintro e wF0 ⟨rfl, hbF0⟩))
  have hb := below_undrew' hbE0
  clear hbE0
  replace X0 := cells_later X0 hlX0 hb
  replace ZT0 := cells_later ZT0 hlZT0 hb
  replace r_S := r_S.below hb
  replace fr_S := fr_S.below hb
  replace r_T0 := r_T0.below hb
  replace fr_T0 := fr_T0.below hb
  replace r_G := r_G.below hb
  replace fr_G := fr_G.below hb
  replace hB := hB.trans (hb.mono hz0)
  have hzn := hb.size
  replace hlX0 := Nat.lt_of_lt_of_le hlX0 hzn
  replace hlZT0 := Nat.lt_of_lt_of_le hlZT0 hzn
  replace hh_S := Nat.le_trans hh_S hzn
  replace hh_T0 := Nat.le_trans hh_T0 hzn
  replace hh_G := Nat.le_trans hh_G hzn
  replace hz0 := Nat.le_trans hz0 hzn
  clear hb hzn
  have hb := hbF0
  clear hbF0
  replace X0 := cells_later X0 hlX0 hb
  replace ZT0 := cells_later ZT0 hlZT0 hb
  replace r_S := r_S.below hb
  replace fr_S := fr_S.below hb
  replace r_T0 := r_T0.below hb
  replace fr_T0 := fr_T0.below hb
  replace r_G := r_G.below hb
  replace fr_G := fr_G.below hb
  replace hB := hB.trans (hb.mono hz0)
  have hzn := hb.size
  replace hlX0 := Nat.lt_of_lt_of_le hlX0 hzn
  replace hlZT0 := Nat.lt_of_lt_of_le hlZT0 hzn
  replace hh_S := Nat.le_trans hh_S hzn
  replace hh_T0 := Nat.le_trans hh_T0 hzn
  replace hh_G := Nat.le_trans hh_G hzn
  replace hz0 := Nat.le_trans hz0 hzn
  clear hb hzn
  clear C0_0 C0_1 C1_0 C1_1
  go_wp2_with fail
  have hcb0 : cntT x0.cd ≤ 16777216 := by have := Stk.cdT_cnt x0; omega
  refine (markStack_x x0 _ _ (1) _ (by omega) (by omega) (by exact r_T0) fr_T0.free fr_T0.1).mono ?_
  rintro e wm0 ⟨rfl, _, _, ho⟩
  replace X0 := MkV.cells ho hlX0 (fun h => by have := (fr_T0.2 _ h).1; have := hi_T0 _ h; omega) X0
  replace ZT0 := MkV.cells ho hlZT0 (fun h => by have := (fr_T0.2 _ h).1; have := hi_T0 _ h; omega) ZT0
  have so : SameOn f_S _ _ := ho.same (fun b hb => Nat.lt_of_lt_of_le (hi_S b hb) hh_S) (fun b hb hx => by have := hi_S b hb; have := (fr_S.2 b hb).1; have := hi_T0 b hx; have := (fr_T0.2 b hx).1; omega)
  replace r_S := r_S.same _ so
  replace fr_S := fr_S.same so
  clear so
  have so : SameOn f_G _ _ := ho.same (fun b hb => Nat.lt_of_lt_of_le (hi_G b hb) hh_G) (fun b hb hx => by have := hi_G b hb; have := (fr_G.2 b hb).1; have := hi_T0 b hx; have := (fr_T0.2 b hx).1; omega)
  replace r_G := r_G.same _ so
  replace fr_G := fr_G.same so
  clear so
  replace hB := hB.trans (ho.toBelow (B := w.heap.size) hz0 (fun b hb => by have := (fr_T0.2 b hb).1; omega))
  have hzn := ho.size
  replace hlX0 := Nat.lt_of_lt_of_le hlX0 hzn
  replace hlZT0 := Nat.lt_of_lt_of_le hlZT0 hzn
  replace hh_S := Nat.le_trans hh_S hzn
  replace hh_T0 := Nat.le_trans hh_T0 hzn
  replace hh_G := Nat.le_trans hh_G hzn
  replace hz0 := Nat.le_trans hz0 hzn
  clear ho hzn
  clear r_T0 fr_T0
  have hneg : decide (((1 + cntT x0.cd : Int)) < 0) = false := by simp; omega
  go_wp2_with fail
  clear hneg
  refine (eqFormS_x (stkFms x0) _ _ _ _ _ (by exact r_G) (by exact r_S)).mono ?_
  rintro e we2 ⟨rfl, hb⟩
  replace X0 := cells_later X0 hlX0 hb
  replace ZT0 := cells_later ZT0 hlZT0 hb
  replace r_S := r_S.below hb
  replace fr_S := fr_S.below hb
  replace r_G := r_G.below hb
  replace fr_G := fr_G.below hb
  replace hB := hB.trans (hb.mono hz0)
  have hzn := hb.size
  replace hlX0 := Nat.lt_of_lt_of_le hlX0 hzn
  replace hlZT0 := Nat.lt_of_lt_of_le hlZT0 hzn
  replace hh_S := Nat.le_trans hh_S hzn
  replace hh_G := Nat.le_trans hh_G hzn
  replace hz0 := Nat.le_trans hz0 hzn
  clear hb hzn
  go_wp2_with fail
  refine (markFormS_x (stkFms x0) _ _ 1 _ (by omega) (by omega) r_G fr_G.free fr_G.1).mono ?_
  rintro e wM ⟨rfl, r_G', hfm, ho⟩
  replace X0 := MkV.cells ho hlX0 (fun h => by have := (fr_G.2 _ h).1; have := hi_G _ h; omega) X0
  replace ZT0 := MkV.cells ho hlZT0 (fun h => by have := (fr_G.2 _ h).1; have := hi_G _ h; omega) ZT0
  have so : SameOn f_S _ _ := ho.same (fun b hb => Nat.lt_of_lt_of_le (hi_S b hb) hh_S) (fun b hb hx => by have := hi_S b hb; have := (fr_S.2 b hb).1; have := hi_G b hx; have := (fr_G.2 b hx).1; omega)
  replace r_S := r_S.same _ so
  replace fr_S := fr_S.same so
  clear so
  replace hB := hB.trans (ho.toBelow (B := w.heap.size) hz0 (fun b hb => by have := (fr_G.2 b hb).1; omega))
  have hzn := ho.size
  replace hlX0 := Nat.lt_of_lt_of_le hlX0 hzn
  replace hlZT0 := Nat.lt_of_lt_of_le hlZT0 hzn
  replace hh_S := Nat.le_trans hh_S hzn
  replace hh_G := Nat.le_trans hh_G hzn
  replace hz0 := Nat.le_trans hz0 hzn
  clear ho hzn
  have fr_M : True := trivial
  clear r_G fr_G
  have r_G := r_G'
  clear r_G' hfm
  go_wp2_with fail
  refine (heldFormS_x (stkFms x0) _ _ 1 _ (by omega) (by omega) r_G).mono ?_
  rintro e wh3 ⟨rfl, hb⟩
  replace r_G := r_G.below hb
  replace X0 := cells_later X0 hlX0 hb
  replace ZT0 := cells_later ZT0 hlZT0 hb
  replace r_S := r_S.below hb
  replace fr_S := fr_S.below hb
  replace hB := hB.trans (hb.mono hz0)
  have hzn := hb.size
  replace hlX0 := Nat.lt_of_lt_of_le hlX0 hzn
  replace hlZT0 := Nat.lt_of_lt_of_le hlZT0 hzn
  replace hh_S := Nat.le_trans hh_S hzn
  replace hz0 := Nat.le_trans hz0 hzn
  clear hb hzn
  have hneg : decide (((1 + cntR ((stkFms x0).map Fm.cd) : Int)) < 0) = false := by simp; omega
  have hne : ((1 + cntR ((stkFms x0).map Fm.cd) : Int) != (1 + cntR ((stkFms x0).map Fm.cd) : Int)) = false := by simp
  go_wp2_with fail
  clear hneg hne
  refine (toStack_x x0 _ _ _ hbig0 (by exact hv0.below hB)).mono ?_
  rintro e wy0 ⟨y0, yf0, rfl, yr0, yg0, hb⟩
  replace r_G := r_G.below hb
  replace X0 := cells_later X0 hlX0 hb
  replace ZT0 := cells_later ZT0 hlZT0 hb
  replace r_S := r_S.below hb
  replace fr_S := fr_S.below hb
  replace hB := hB.trans (hb.mono hz0)
  have hzn := hb.size
  replace hlX0 := Nat.lt_of_lt_of_le hlX0 hzn
  replace hlZT0 := Nat.lt_of_lt_of_le hlZT0 hzn
  replace hh_S := Nat.le_trans hh_S hzn
  replace hz0 := Nat.le_trans hz0 hzn
  clear hb hzn
  go_wp2_with fail
  refine (stackForms_any x0 _ _ _ hbig0 (by exact yr0)).mono ?_
  rintro e wH ⟨vH, f_H, rfl, r_H, fr_H, hb⟩
  replace r_G := r_G.below hb
  replace X0 := cells_later X0 hlX0 hb
  replace ZT0 := cells_later ZT0 hlZT0 hb
  replace r_S := r_S.below hb
  replace fr_S := fr_S.below hb
  replace hB := hB.trans (hb.mono hz0)
  have hzn := hb.size
  replace hlX0 := Nat.lt_of_lt_of_le hlX0 hzn
  replace hlZT0 := Nat.lt_of_lt_of_le hlZT0 hzn
  replace hh_S := Nat.le_trans hh_S hzn
  replace hz0 := Nat.le_trans hz0 hzn
  clear hb hzn
  go_wp2_with fail
  refine (eqFormS_x (stkFms x0) _ _ _ _ _ (by exact r_H) (by exact r_S)).mono ?_
  rintro e we4 ⟨rfl, hb⟩
  replace r_G := r_G.below hb
  replace X0 := cells_later X0 hlX0 hb
  replace ZT0 := cells_later ZT0 hlZT0 hb
  replace r_S := r_S.below hb
  replace fr_S := fr_S.below hb
  replace hB := hB.trans (hb.mono hz0)
  have hzn := hb.size
  replace hlX0 := Nat.lt_of_lt_of_le hlX0 hzn
  replace hlZT0 := Nat.lt_of_lt_of_le hlZT0 hzn
  replace hh_S := Nat.le_trans hh_S hzn
  replace hz0 := Nat.le_trans hz0 hzn
  clear hb hzn
  go_wp2_with fail
  refine (heldFormS_x (stkFms x0) _ _ 1 _ (by omega) (by omega) r_G).mono ?_
  rintro e wh5 ⟨rfl, hb⟩
  replace r_G := r_G.below hb
  replace X0 := cells_later X0 hlX0 hb
  replace ZT0 := cells_later ZT0 hlZT0 hb
  replace r_S := r_S.below hb
  replace fr_S := fr_S.below hb
  replace hB := hB.trans (hb.mono hz0)
  have hzn := hb.size
  replace hlX0 := Nat.lt_of_lt_of_le hlX0 hzn
  replace hlZT0 := Nat.lt_of_lt_of_le hlZT0 hzn
  replace hh_S := Nat.le_trans hh_S hzn
  replace hz0 := Nat.le_trans hz0 hzn
  clear hb hzn
  have hneg : decide (((1 + cntR ((stkFms x0).map Fm.cd) : Int)) < 0) = false := by simp; omega
  have hne : ((1 + cntR ((stkFms x0).map Fm.cd) : Int) != (1 + cntR ((stkFms x0).map Fm.cd) : Int)) = false := by simp
  go_wp2_with fail
  clear hneg hne
  go_ret
  exact ⟨rfl, hB⟩
end Go.Proofs.YtlcfophhjflpdaaGreat
