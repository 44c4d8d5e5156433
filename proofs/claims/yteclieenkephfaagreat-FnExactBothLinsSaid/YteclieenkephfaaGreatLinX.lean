/- BothLins: the two walks. -/
import Derived.Deep.RegionHeld3
import Derived.Test.YteclieenkephfaaGreatLinW
namespace Go.Proofs.YteclieenkephfaaGreat
open Go Go.RowKit
set_option linter.unusedVariables false
set_option linter.unusedSimpArgs false

def linsB (s : Sg) (ls : List Lt) : List Ln := if bothB s ls = true then linsP (numsB s ls) ls else []
theorem linsB_no {s : Sg} {ls : List Lt} (h : bothB s ls = false) : linsB s ls = [] := by unfold linsB; rw [h]; rfl
theorem linsB_yes {s : Sg} {ls : List Lt} (h : bothB s ls = true) : linsB s ls = linsP (numsB s ls) ls := if_pos h
theorem linsB_len (s : Sg) (ls : List Lt) : (linsB s ls).length ≤ 2 * ls.length := by
  unfold linsB; split
  · exact linsP_len _ _
  · simp
set_option maxHeartbeats 2000000 in
theorem bothLins_any (s : Sg) (ls : List Lt) (us : List Value) (v : Value) (f f' : List Nat) (w : World) (hsm : ∀ l ∈ ls, l.atom.small) (hbig : Tm.sizes (litsT ls) ≤ 1000000000) (hlen : ls.length ≤ 1048576) (hv : RdVs w s.cd us f') (hx : Rd w (.sl (ls.map Lt.cd)) v f) :
    Calls Tryz.prog 9 #[.agg us.toArray, v] w (ToOut (.sl ((linsB s ls).map Ln.cd)) w) := by
  obtain ⟨a0, c0, f0, rfl, _, n0⟩ := Sg.open hv
  have hb0 := below_alloc w (.cells #[.slice a0 s.syms.length c0] 32)
  go_enter Tryz.func9, Tryz.ntmps9
  go_wp2_with fail
  refine (bothOk_any s ls _ v _ _ _ hsm hbig (by exact hv.below hb0) (by exact hx.below hb0)).mono ?_
  rintro e w1 ⟨rfl, hb1⟩
  obtain ⟨hxL, hzL, hBL⟩ := box1 (w := w) (wr := w1) (cs := #[.slice a0 s.syms.length c0]) (T := 32) (below_size hb1 (by simp))
  have cx := hxL 0
  simp only [List.getElem?_toArray, List.getElem?_cons_zero, List.getElem?_cons_succ] at cx
  clear hxL hb1
  cases h1 : bothB s ls
  · have HE := Lib.hid (linsB_no h1)
    clear h1
    go_wp2_with fail
    go_ret
    exact ⟨_, [], rfl, by rw [HE.out]; exact nil_rd _ _, Fresh.nil _ _, hBL⟩
  · have HE := Lib.hid (numsB_yes h1)
    have HL := Lib.hid (linsB_yes h1)
    have HG := Lib.hid (goodL_of h1)
    clear h1
    go_wp2_with fail
    refine (numsOf_any s ls _ v _ _ _ hbig (by exact hv.below hBL) (by exact hx.below hBL)).mono ?_
    rintro e w2 ⟨⟨rv, rf, rfl, hr, hfr⟩, hb2⟩
    rw [HE.out] at hr
    have hB2 := hBL.trans (hb2.mono hBL.size)
    go_wp2_with fail
    refine (linsOf_any (numsB s ls) ls rv v _ _ (Lib.hid (numsB_nodup s ls)) numsB_few HG hlen ⟨rf, hr⟩ (by exact hx.below hB2)).mono ?_
    rintro e w3 ⟨kv, fp, rfl, hr3, hf3, hb3⟩
    go_wp2_with fail
    go_ret
    exact ⟨kv, fp, rfl, by rw [HL.out]; exact hr3, hf3.mono hB2.size, hB2.trans (hb3.mono hB2.size)⟩
set_option maxRecDepth 100000 in
set_option maxHeartbeats 2000000 in
theorem bothLinsS_any (s : Sg) (ls : List Lt) (us : List Value) (v : Value) (f f' : List Nat) (w : World) (hsm : ∀ l ∈ ls, l.atom.small) (hbig : Tm.sizes (litsU ls) ≤ 1000000000) (hlen : ls.length ≤ 1048576) (hv : RdVs w s.cd us f') (hx : Rd w (.sl (ls.map Lt.cd)) v f) :
    Calls Tryz.prog 6 #[.agg us.toArray, v] w (ToOut (.sl ((linsB s ls).map Ln.cd)) w) := by
  obtain ⟨a0, c0, f0, rfl, _, n0⟩ := Sg.open hv
  have hln := litsU_len ls
  have HSM := Lib.hid hsm
  clear hsm
  go_enter Tryz.func6, Tryz.ntmps6
  go_wp2_with fail
  refine (bothOkS_any s ls _ v _ _ _ HSM.out hbig (by exact hv.below (below_alloc _ _)) (by exact hx.below (below_alloc _ _))).mono ?_
  rintro e w1 ⟨rfl, hb1⟩
  obtain ⟨X0, hzL, hB⟩ := box1 (w := w) (wr := w1) (cs := #[.slice a0 s.syms.length c0]) (T := 32) (below_size hb1 (by simp))
  have hz0 := hB.size
  have hlX0 : w.heap.size < w1.heap.size := by omega
  clear hb1
  cases h1 : bothB s ls
  · have HE := Lib.hid (linsB_no h1)
    obtain ⟨fp', hr1, hr2, _⟩ := (Own.empty w1 w.heap.size 69 3 hz0).fresh (Fresh.nil _ _)
    have hB1 := hB.alloc hz0 (.cells #[] 69)
    clear h1
    go_wp2_with fail
    go_ret
    exact ⟨_, fp', rfl, by rw [HE.out]; exact hr1, hr2, hB1⟩
  · have HOK := Lib.hid (bothB_ats h1).1
    have HE := Lib.hid (numsB_yesS h1)
    have HL := Lib.hid (linsB_yes h1)
    have HG := Lib.hid (goodL_of h1)
    clear h1
    go_wp2_with fail
    have C0_0 := X0 0
    simp only [List.getElem?_toArray, List.getElem?_cons_zero, List.getElem?_cons_succ] at C0_0
    go_region_held3 (fun W => W.cell? ⟨w.heap.size, 0, none⟩ = some (.slice a0 s.syms.length c0))
      (first | exact C0_0 | exact cell_keep C0_0 (below_undrew' hbR0) | exact cell_keep (cell_keep C0_0 (below_undrew' hbR0)) hbR1 | exact cell_keep (cell_keep (cell_keep C0_0 (below_undrew' hbR0)) hbR1) hbR2)
      (first | (go_at_call 22; (with_reducible refine (l8Terms_any ls _ _ _ HSM.out hbig hlen (by exact hx.below (hB.drew))).mono ?_); rintro e wR0 ⟨pv, pf, rfl, hp, hpf, hbR0⟩) | (go_at_call 21; (with_reducible refine (l8Nums_any s HOK (Tm.addPs [] (litsU ls)) _ _ _ _ _ (by omega) (by exact hv.below ((hB).trans ((below_undrew' hbR0).mono (hB).size))) (by exact hp) w.heap.size (((hB).trans ((below_undrew' hbR0).mono (hB).size))).size (by exact hpf.mono (by simpa using hz0))).mono ?_); rintro e wR1 ⟨⟨rv, rf, rfl, hr, hfr⟩, hbR1⟩; rw [HE.out] at hr; have hrt : TmsR wR1 (numsB s ls) rv := ⟨rf, hr⟩) | (go_at_call 20; (with_reducible refine (l8Lins_any (numsB s ls) ls rv v _ _ (Lib.hid (numsB_nodup s ls)) numsB_few HG hlen (by exact hrt) (by exact hx.below (((hB).trans ((below_undrew' hbR0).mono (hB).size)).trans (hbR1.mono ((hB).trans ((below_undrew' hbR0).mono (hB).size)).size)))).mono ?_); rintro e wR2 ⟨kv, fp, rfl, hr3, hf3, hbR2⟩))
    have hB0 := (hB).trans ((below_undrew' hbR0).mono (hB).size)
    have hB1 := hB0.trans (hbR1.mono hB0.size)
    have hB2 := hB1.trans (hbR2.mono hB1.size)
    go_wp2_with fail
    go_ret
    exact ⟨kv, fp, rfl, by rw [HL.out]; exact hr3, hf3.mono hB1.size, hB2⟩
end Go.Proofs.YteclieenkephfaaGreat
