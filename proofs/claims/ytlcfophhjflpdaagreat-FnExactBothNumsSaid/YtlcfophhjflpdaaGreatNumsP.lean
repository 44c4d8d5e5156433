/- BothNums: the two walks. -/
import Derived.Test.YtlcfophhjflpdaaGreatBoth5
namespace Go.Proofs.YtlcfophhjflpdaaGreat
open Go Go.RowKit
set_option linter.unusedVariables false
set_option linter.unusedSimpArgs false

def numsB (s : Sg) (ls : List Lt) : List Tm := if bothB s ls = true then (Tm.addPs [] (litsT ls)).filter (Tm.isNum s) else []
theorem numsB_no {s : Sg} {ls : List Lt} (h : bothB s ls = false) : numsB s ls = [] := by unfold numsB; rw [h]; rfl
theorem bothB_ats {s : Sg} {ls : List Lt} (h : bothB s ls = true) : s.okB = true ∧ ls.length ≤ 6 ∧ ls.all (fun l => atomB s l.atom) = true := by
  simp only [bothB, Bool.and_eq_true, decide_eq_true_eq] at h
  exact ⟨h.2.2.1, h.1, h.2.1⟩
theorem numsB_yes {s : Sg} {ls : List Lt} (h : bothB s ls = true) : (Tm.parts (litsT ls)).filter (Tm.isNum s) = numsB s ls := by
  unfold numsB; rw [if_pos h, lits_parts (bothB_ats h).2.2]
theorem numsB_yesS {s : Sg} {ls : List Lt} (h : bothB s ls = true) : (Tm.addPs [] (litsU ls)).filter (numS s) = numsB s ls := by
  unfold numsB; rw [if_pos h, lits_same (bothB_ats h).2.2]
  exact lits_nums (bothB_ats h).1 (bothB_ats h).2.2
theorem litsU_len (ls : List Lt) : (Tm.addPs [] (litsU ls)).length ≤ Tm.sizes (litsU ls) := by
  have := Tm.addPs_len (litsU ls) []; simpa using this

theorem bothNums_any (s : Sg) (ls : List Lt) (us : List Value) (v : Value) (f f' : List Nat) (w : World) (hsm : ∀ l ∈ ls, l.atom.small) (hbig : Tm.sizes (litsT ls) ≤ 1000000000) (hv : RdVs w s.cd us f') (hx : Rd w (.sl (ls.map Lt.cd)) v f) :
    Calls Tryz.prog 36 #[.agg us.toArray, v] w (ToOut (.sl ((numsB s ls).map Tm.cd)) w) := by
  obtain ⟨a0, c0, f0, rfl, _, n0⟩ := Sg.open hv
  have hb0 := below_alloc w (.cells #[.slice a0 s.syms.length c0] 41)
  go_enter Tryz.func36, Tryz.ntmps36
  go_wp2_with fail
  refine (bothOk_any s ls _ v _ _ _ hsm hbig (by exact hv.below hb0) (by exact hx.below hb0)).mono ?_
  rintro e w1 ⟨rfl, hb1⟩
  obtain ⟨hxL, hzL, hBL⟩ := box1 (w := w) (wr := w1) (cs := #[.slice a0 s.syms.length c0]) (T := 41) (below_size hb1 (by simp))
  have cx := hxL 0
  simp only [List.getElem?_toArray, List.getElem?_cons_zero, List.getElem?_cons_succ] at cx
  clear hxL hb1
  cases h1 : bothB s ls
  · have HE := Lib.hid (numsB_no h1)
    clear h1
    go_wp2_with fail
    go_ret
    exact ⟨_, [], rfl, by rw [HE.out]; exact nil_rd _ _, Fresh.nil _ _, hBL⟩
  · have HE := Lib.hid (numsB_yes h1)
    clear h1
    go_wp2_with fail
    refine (numsOf_any s ls _ v _ _ _ hbig (by exact hv.below hBL) (by exact hx.below hBL)).mono ?_
    rintro e w2 ⟨⟨rv, rf, rfl, hr, hfr⟩, hb2⟩
    rw [HE.out] at hr
    go_wp2_with fail
    go_ret
    exact ⟨rv, rf, rfl, hr, hfr.mono hBL.size, hBL.trans (hb2.mono hBL.size)⟩
set_option maxRecDepth 100000 in
set_option maxHeartbeats 2000000 in
theorem bothNumsS_any (s : Sg) (ls : List Lt) (us : List Value) (v : Value) (f f' : List Nat) (w : World) (hsm : ∀ l ∈ ls, l.atom.small) (hbig : Tm.sizes (litsU ls) ≤ 1000000000) (hlen : ls.length ≤ 1048576) (hv : RdVs w s.cd us f') (hx : Rd w (.sl (ls.map Lt.cd)) v f) :
    Calls Tryz.prog 34 #[.agg us.toArray, v] w (ToOut (.sl ((numsB s ls).map Tm.cd)) w) := by
  obtain ⟨a0, c0, f0, rfl, _, n0⟩ := Sg.open hv
  have hln := litsU_len ls
  have HSM := Lib.hid hsm
  clear hsm
  go_enter Tryz.func34, Tryz.ntmps34
  go_wp2_with fail
  refine (bothOkS_any s ls _ v _ _ _ HSM.out hbig (by exact hv.below (below_alloc _ _)) (by exact hx.below (below_alloc _ _))).mono ?_
  rintro e w1 ⟨rfl, hb1⟩
  obtain ⟨X0, hzL, hB⟩ := box1 (w := w) (wr := w1) (cs := #[.slice a0 s.syms.length c0]) (T := 41) (below_size hb1 (by simp))
  have hz0 := hB.size
  have hlX0 : w.heap.size < w1.heap.size := by omega
  clear hb1
  cases h1 : bothB s ls
  · have HE := Lib.hid (numsB_no h1)
    obtain ⟨fp', hr1, hr2, _⟩ := (Own.empty w1 w.heap.size 45 2 hz0).fresh (Fresh.nil _ _)
    have hB1 := hB.alloc hz0 (.cells #[] 45)
    clear h1
    go_wp2_with fail
    go_ret
    exact ⟨_, fp', rfl, by rw [HE.out]; exact hr1, hr2, hB1⟩
  · have HOK := Lib.hid (bothB_ats h1).1
    have HE := Lib.hid (numsB_yesS h1)
    clear h1
    go_wp2_with fail
    have C0_0 := X0 0
    simp only [List.getElem?_toArray, List.getElem?_cons_zero, List.getElem?_cons_succ] at C0_0
    go_region_held3 (fun W => W.cell? ⟨w.heap.size, 0, none⟩ = some (.slice a0 s.syms.length c0) ∧ Below w.heap.size w W)
      (first | exact ⟨C0_0, hB.drew⟩ | (refine ⟨?_, (hB).trans ((below_undrew' hbR0).mono (hB).size)⟩ <;> (refine (cell_keep ?_ (below_undrew' hbR0)); assumption)) | (refine (cell_keep ?_ (below_undrew' hbR0)); assumption) | exact (hB).trans ((below_undrew' hbR0).mono (hB).size) | (refine ⟨?_, ((hB).trans ((below_undrew' hbR0).mono (hB).size)).trans (hbR1.mono ((hB).trans ((below_undrew' hbR0).mono (hB).size)).size)⟩ <;> (refine (cell_keep (cell_keep ?_ (below_undrew' hbR0)) hbR1); assumption)) | (refine (cell_keep (cell_keep ?_ (below_undrew' hbR0)) hbR1); assumption) | exact ((hB).trans ((below_undrew' hbR0).mono (hB).size)).trans (hbR1.mono ((hB).trans ((below_undrew' hbR0).mono (hB).size)).size))
      (first | (go_at_call 85; (with_reducible refine (l8Terms_any ls _ _ _ HSM.out hbig hlen (by exact hx.below (hB.drew))).mono ?_); rintro e wR0 ⟨pv, pf, rfl, hp, hpf, hbR0⟩) | (go_at_call 84; (with_reducible refine (l8Nums_any s HOK (Tm.addPs [] (litsU ls)) _ _ _ _ _ (by omega) (by exact hv.below ((hB).trans ((below_undrew' hbR0).mono (hB).size))) (by exact hp) w.heap.size (((hB).trans ((below_undrew' hbR0).mono (hB).size))).size (by exact hpf.mono (by simpa using hz0))).mono ?_); rintro e wR1 ⟨⟨rv, rf, rfl, hr, hfr⟩, hbR1⟩))
    have hb := below_undrew' hbR0
    clear hbR0
    replace X0 := cells_later X0 hlX0 hb
    replace hB := hB.trans (hb.mono hz0)
    have hzn := hb.size
    replace hlX0 := Nat.lt_of_lt_of_le hlX0 hzn
    replace hz0 := Nat.le_trans hz0 hzn
    clear hb hzn
    have hb := hbR1
    clear hbR1
    replace X0 := cells_later X0 hlX0 hb
    replace hB := hB.trans (hb.mono hz0)
    have hzn := hb.size
    replace hlX0 := Nat.lt_of_lt_of_le hlX0 hzn
    replace hz0 := Nat.le_trans hz0 hzn
    clear hb hzn
    clear C0_0
    rw [HE.out] at hr
    go_wp2_with fail
    go_ret
    exact ⟨rv, rf, rfl, hr, hfr, hB⟩
end Go.Proofs.YtlcfophhjflpdaaGreat
