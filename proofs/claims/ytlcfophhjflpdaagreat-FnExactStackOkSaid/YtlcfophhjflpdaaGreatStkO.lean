/- StackOk: both sides. -/
import Derived.Deep.RegionHeld3
import Derived.BigQuiet
import Derived.Test.YtlcfophhjflpdaaGreatFormO
namespace Go.Proofs.YtlcfophhjflpdaaGreat
open Go Go.RowKit
set_option linter.unusedVariables false
set_option linter.unusedSimpArgs false

theorem flat_wt : ∀ (ls : List (List Fm)), ls.flatten.length + wtR (ls.flatten.map Fm.cd) ≤ wtR (ls.map fmsCd)
  | [] => by simp [wtR]
  | l :: ls => by
    have h := flat_wt ls
    simp only [List.flatten_cons, List.length_append, List.map_append, wtR_append, List.map_cons, wtR_cons, fmsCd, wtV_sl] at h ⊢
    omega
theorem Stk.flat_big {k : Stk} (h : wtV k.cd ≤ 1048576) : k.levels.flatten.length + wtR (k.levels.flatten.map Fm.cd) ≤ 1048576 := by
  have h1 := flat_wt k.levels
  simp only [Stk.cd, wtV_append, wtV_sl] at h
  omega
theorem flat_succ (ls : List (List Fm)) (k : Nat) (h : k < ls.length) : (ls.take (k + 1)).flatten = (ls.take k).flatten ++ ls[k] := by
  rw [List.take_succ_eq_append_getElem h, List.flatten_append]; simp
theorem lvl_len (ls : List (List Fm)) (k : Nat) : (ls.take k).flatten.length ≤ ls.flatten.length := by
  have h : ls.flatten = (ls.take k).flatten ++ (ls.drop k).flatten := by rw [← List.flatten_append, List.take_append_drop]
  rw [h, List.length_append]; omega
def Stk.okK (k : Stk) : Bool := (decide ((1 : Int) ≤ (k.levels.length : Int)) && decide ((k.levels.length : Int) ≤ 4)) && fmsIn k.sig k.levels.flatten
theorem Stk.okK_no {k : Stk} (h : (decide ((1 : Int) ≤ (k.levels.length : Int)) && decide ((k.levels.length : Int) ≤ 4)) = false) : k.okK = false := by unfold Stk.okK; rw [h]; rfl
theorem Stk.okK_yes {k : Stk} (h : (decide ((1 : Int) ≤ (k.levels.length : Int)) && decide ((k.levels.length : Int) ≤ 4)) = true) : k.okK = fmsIn k.sig k.levels.flatten := by unfold Stk.okK; rw [h]; rfl
theorem below_drewNs {B k : Nat} {a w : World} (h : Below B a w) : Below B a (w.drewN k) := ⟨h.os, h.tape, h.output, h.size, h.block⟩

set_option maxHeartbeats 2000000 in
theorem forms_any (k : Stk) (vs : List Value) (f : List Nat) (w : World) (hbig : k.levels.flatten.length + wtR (k.levels.flatten.map Fm.cd) ≤ 1048576) (hv : RdVs w k.cd vs f) :
    Calls Tryz.prog 76 #[.agg vs.toArray] w fun e w' => (∃ rv rf, e = .returned rv ∧ Rd w' (.sl (k.levels.flatten.map Fm.cd)) rv rf) ∧ Below w.heap.size w w' := by
  obtain ⟨a0, c0, f0, a1, c1, f1, rfl, _, m0, m1⟩ := Stk.open hv
  obtain ⟨ls, hls⟩ : ∃ ls, ls = k.levels := ⟨_, rfl⟩
  rw [← hls] at m1 hbig ⊢
  have HLS := Lib.hid hls
  have hlen := rd_len m1
  have hfl := m1.lt _
  have hb0 := below_alloc w (.cells #[.slice a0 k.sig.syms.length c0, .slice a1 ls.length c1] 69)
  clear hls
  go_enter Tryz.func76, Tryz.ntmps76
  go_wp2_with fail
  go_loopw [3, 9] (fun ov i wr => ∃ (j : Nat) (fp : List Nat), j ≤ ls.length ∧ i = .int .i64 j ∧ Own wr (w.heap.size + 1) 52 12 ov ((ls.take j).flatten.map Fm.cd) fp ∧ Below (w.heap.size + 1) (w.alloc (.cells #[.slice a0 k.sig.syms.length c0, .slice a1 ls.length c1] 69)) wr) (fun _ i _ => ls.length - (intOf i).toNat)
  case atStart => exact ⟨0, [], Nat.zero_le _, rfl, by simpa using Own.nil _ _ _ _, Below.refl _ _⟩
  case round =>
    obtain ⟨j, fp, hjl, rfl, hown, hbx⟩ := hrel
    obtain ⟨X0, hzz, hb⟩ := box1 (w := w) (wr := wr) (cs := #[.slice a0 k.sig.syms.length c0, .slice a1 ls.length c1]) (T := 69) hbx
    have C0 := X0 0
    have C1 := X0 1
    simp only [List.getElem?_toArray, List.getElem?_cons_zero, List.getElem?_cons_succ] at C0 C1
    clear X0
    have hz := hb.size
    obtain ⟨es, hes⟩ : ∃ es, es = (ls.take j).flatten := ⟨_, rfl⟩
    rw [← hes] at hown
    by_cases hlt : j < ls.length
    · obtain ⟨b, off, rfl, hbs, _⟩ := rd_addr m1 (by omega)
      have hbz : b < wr.heap.size := by omega
      obtain ⟨ga, gc, gf, gd, gr, gsub⟩ := fmsCd_at (m1.below hb) hlt
      have HT := Lib.hid (flat_succ ls j hlt)
      have hl1 := lvl_len ls (j + 1)
      rw [HT.out, List.length_append, ← hes] at hl1
      have HEQ := Lib.hid hes
      clear hes
      go_wp2_with (at_builtin; refine wpList_appAny slTyFormS rfl _ _ rfl (w.heap.size + 1) _ _ _ rfl hown (ls[j].map Fm.cd) _ gf rfl gr ?k ?na ?bytes ?len ?base ?next)
      case k => simp only [List.mem_map]; rintro e ⟨t, _, rfl⟩; exact Fm.cd_len t
      case na =>
        intro y hy e
        have h1 := (hown.block e).1
        have h2 := hfl y (gsub y hy)
        omega
      case bytes => simp only [List.length_map]; omega
      case len => simp only [List.length_map]; omega
      case base => omega
      case next =>
        intro v' w4 nfp hnf hown4 hg hv' hs4
        have hb4 := grown_below hbx hg (by omega) (fun q hq => (hown.block hq).1)
        clear hg hs4 hv'
        go_wp2_with fail
        go_roundw
        case rel =>
          refine ⟨j + 1, fp ++ nfp, by omega, by go_num, ?_, hb4⟩
          rw [HT.out, List.map_append, ← HEQ.out]; exact hown4
        case measure => simp [intOf]; omega
    · have he : ls.take j = ls := List.take_of_length_le (by omega)
      rw [hes, he] at hown
      clear he hes
      obtain ⟨oa, on, oc, rfl⟩ := hown.form'
      obtain ⟨fp', hr⟩ := hown.rd'
      go_wp2_with fail
      go_ret
      exact ⟨⟨_, fp', rfl, hr⟩, hb⟩
set_option maxHeartbeats 2000000 in
theorem l14Forms_any (k : Stk) (vs : List Value) (f : List Nat) (w : World) (hbig : k.levels.flatten.length + wtR (k.levels.flatten.map Fm.cd) ≤ 1048576) (hv : RdVs w k.cd vs f) :
    Calls Tryz.prog 73 #[.agg vs.toArray] w fun e w' => (∃ rv rf, e = .returned rv ∧ Rd w' (.sl (k.levels.flatten.map Fm.cd)) rv rf) ∧ Below w.heap.size w w' := by
  obtain ⟨a0, c0, f0, a1, c1, f1, rfl, _, m0, m1⟩ := Stk.open hv
  obtain ⟨ls, hls⟩ : ∃ ls, ls = k.levels := ⟨_, rfl⟩
  rw [← hls] at m1 hbig ⊢
  have HLS := Lib.hid hls
  have hlen := rd_len m1
  have hfl := m1.lt _
  have hb0 := below_alloc w (.cells #[.slice a0 k.sig.syms.length c0, .slice a1 ls.length c1] 69)
  clear hls
  go_enter Tryz.func73, Tryz.ntmps73
  go_wp2_with fail
  go_loopw [3, 4] (fun ov i wr => ∃ (j : Nat) (fp : List Nat), j ≤ ls.length ∧ i = .int .i64 j ∧ Own wr (w.heap.size + 1) 52 12 ov ((ls.take j).flatten.map Fm.cd) fp ∧ Below (w.heap.size + 1) (w.alloc (.cells #[.slice a0 k.sig.syms.length c0, .slice a1 ls.length c1] 69)) wr) (fun _ i _ => ls.length - (intOf i).toNat)
  case atStart => exact ⟨0, [], Nat.zero_le _, rfl, by simpa using Own.empty (w.alloc (.cells #[.slice a0 k.sig.syms.length c0, .slice a1 ls.length c1] 69)) (w.heap.size + 1) 52 12 (by simp), (Below.refl _ _).alloc (by simp) _⟩
  case round =>
    obtain ⟨j, fp, hjl, rfl, hown, hbx⟩ := hrel
    obtain ⟨X0, hzz, hb⟩ := box1 (w := w) (wr := wr) (cs := #[.slice a0 k.sig.syms.length c0, .slice a1 ls.length c1]) (T := 69) hbx
    have C0 := X0 0
    have C1 := X0 1
    simp only [List.getElem?_toArray, List.getElem?_cons_zero, List.getElem?_cons_succ] at C0 C1
    clear X0
    have hz := hb.size
    obtain ⟨es, hes⟩ : ∃ es, es = (ls.take j).flatten := ⟨_, rfl⟩
    rw [← hes] at hown
    by_cases hlt : j < ls.length
    · obtain ⟨b, off, rfl, hbs, _⟩ := rd_addr m1 (by omega)
      have hbz : b < wr.heap.size := by omega
      obtain ⟨ga, gc, gf, gd, gr, gsub⟩ := fmsCd_at (m1.below hb) hlt
      have HT := Lib.hid (flat_succ ls j hlt)
      have hl1 := lvl_len ls (j + 1)
      rw [HT.out, List.length_append, ← hes] at hl1
      have HEQ := Lib.hid hes
      clear hes
      go_wp2_with (at_builtin; refine wpList_appAny slTyFormS rfl _ _ rfl (w.heap.size + 1) _ _ _ rfl hown (ls[j].map Fm.cd) _ gf rfl gr ?k ?na ?bytes ?len ?base ?next)
      case k => simp only [List.mem_map]; rintro e ⟨t, _, rfl⟩; exact Fm.cd_len t
      case na =>
        intro y hy e
        have h1 := (hown.block e).1
        have h2 := hfl y (gsub y hy)
        omega
      case bytes => simp only [List.length_map]; omega
      case len => simp only [List.length_map]; omega
      case base => omega
      case next =>
        intro v' w4 nfp hnf hown4 hg hv' hs4
        have hb4 := grown_below hbx hg (by omega) (fun q hq => (hown.block hq).1)
        clear hg hs4 hv'
        go_wp2_with fail
        go_roundw
        case rel =>
          refine ⟨j + 1, fp ++ nfp, by omega, by go_num, ?_, hb4⟩
          rw [HT.out, List.map_append, ← HEQ.out]; exact hown4
        case measure => simp [intOf]; omega
    · have he : ls.take j = ls := List.take_of_length_le (by omega)
      rw [hes, he] at hown
      clear he hes
      obtain ⟨oa, on, oc, rfl⟩ := hown.form'
      obtain ⟨fp', hr⟩ := hown.rd'
      go_wp2_with fail
      go_ret
      exact ⟨⟨_, fp', rfl, hr⟩, hb⟩
theorem within_as (n lo hi : Int) (b : Bool) (h : (decide (lo ≤ n) && decide (n ≤ hi)) = b) (w : World) : Calls Tryz.prog 75 #[.int .i64 n, .int .i64 lo, .int .i64 hi] w fun e w' => e = .returned (.bool b) ∧ Below w.heap.size w w' := by
  refine (within_any n lo hi w).mono ?_
  rintro e w' ⟨rfl, rfl⟩
  exact ⟨retB h, Below.refl _ _⟩
set_option maxRecDepth 100000 in
set_option maxHeartbeats 4000000 in
theorem stackOk_any (k : Stk) (vs : List Value) (f : List Nat) (w : World) (hbig : wtV k.cd ≤ 1048576) (hv : RdVs w k.cd vs f) :
    Calls Tryz.prog 26 #[.agg vs.toArray] w fun e w' => e = .returned (.bool k.okK) ∧ Below w.heap.size w w' := by
  have hv0 := hv
  obtain ⟨a0, c0, f0, a1, c1, f1, rfl, _, m0, m1⟩ := Stk.open hv
  have hs := Sg.close m0
  have hfb := Stk.flat_big hbig
  have hlen := rd_len m1
  clear hv m0 m1
  have X0 := cell_new w #[.slice a0 k.sig.syms.length c0, .slice a1 k.levels.length c1] 69
  have hB := below_alloc w (.cells #[.slice a0 k.sig.syms.length c0, .slice a1 k.levels.length c1] 69)
  have hz0 := hB.size
  have hlX0 : w.heap.size < (w.alloc (.cells #[.slice a0 k.sig.syms.length c0, .slice a1 k.levels.length c1] 69)).heap.size := by simp
  go_enter Tryz.func26, Tryz.ntmps26
  go_wp2_with fail
  cases hin : (decide ((1 : Int) ≤ (k.levels.length : Int)) && decide ((k.levels.length : Int) ≤ 4))
  · have HE := Lib.hid (Stk.okK_no (k := k) hin)
    generalize hWW : w.alloc (.cells #[.slice a0 k.sig.syms.length c0, .slice a1 k.levels.length c1] 69) = W0 at *
    clear hWW
    have HL0 := Lib.hid (fun (W' : World) (hb' : Below W0.heap.size W0 W') => within_as (k.levels.length : Int) 1 4 false hin W')
    have C0_0 := X0 0
    have C0_1 := X0 1
    simp only [List.getElem?_toArray, List.getElem?_cons_zero, List.getElem?_cons_succ] at C0_0 C0_1
    clear X0
    have qC0_0 := cell_regrown C0_0
    have qC0_1 := cell_regrown C0_1
    clear C0_0 C0_1
    refine wp_region_quiet_below (by kernel_rfl) (by kernel_rfl) ?_
    repeat (first | go_big_quiet_skip | quiet_step (first | (go_at_call 75; with_reducible refine Calls.regrown_of (HL0.out _ (below_regrown _ _ _)))))
    refine wpQuiet_nil ?_
    intro w9 hw2
    obtain ⟨⟨dq, osq⟩, hw2⟩ := hw2
    have hb9 : Below (W0).heap.size (W0) w9 := hw2 ▸ below_regrown (W0) dq osq
    clear hw2 qC0_0 qC0_1
    go_wp2_with fail
    go_ret
    exact ⟨retB HE.out.symm, hB.trans (hb9.mono hz0)⟩
  · have HE := Lib.hid (Stk.okK_yes (k := k) hin)
    have C0_0 := X0 0
    have C0_1 := X0 1
    simp only [List.getElem?_toArray, List.getElem?_cons_zero, List.getElem?_cons_succ] at C0_0 C0_1
    first | go_region_held3 (fun W => W.cell? ⟨w.heap.size, 0, none⟩ = some (.slice a0 k.sig.syms.length c0) ∧ W.cell? ⟨w.heap.size, 1, none⟩ = some (.slice a1 k.levels.length c1) ∧ Below w.heap.size w W)
      (first | exact ⟨C0_0, C0_1, hB.drew⟩ | (refine ⟨?_, ?_, (hB).trans ((below_undrew' hbR0).mono (hB).size)⟩ <;> (refine (cell_keep ?_ (below_undrew' hbR0)); assumption)) | (refine (cell_keep ?_ (below_undrew' hbR0)); assumption) | exact (hB).trans ((below_undrew' hbR0).mono (hB).size) | (refine ⟨?_, ?_, ((hB).trans ((below_undrew' hbR0).mono (hB).size)).trans (hbR1.mono ((hB).trans ((below_undrew' hbR0).mono (hB).size)).size)⟩ <;> (refine (cell_keep (cell_keep ?_ (below_undrew' hbR0)) hbR1); assumption)) | (refine (cell_keep (cell_keep ?_ (below_undrew' hbR0)) hbR1); assumption) | exact ((hB).trans ((below_undrew' hbR0).mono (hB).size)).trans (hbR1.mono ((hB).trans ((below_undrew' hbR0).mono (hB).size)).size) | (refine ⟨?_, ?_, (((hB).trans ((below_undrew' hbR0).mono (hB).size)).trans (hbR1.mono ((hB).trans ((below_undrew' hbR0).mono (hB).size)).size)).trans (hbR2.mono (((hB).trans ((below_undrew' hbR0).mono (hB).size)).trans (hbR1.mono ((hB).trans ((below_undrew' hbR0).mono (hB).size)).size)).size)⟩ <;> (refine (cell_keep (cell_keep (cell_keep ?_ (below_undrew' hbR0)) hbR1) hbR2); assumption)) | (refine (cell_keep (cell_keep (cell_keep ?_ (below_undrew' hbR0)) hbR1) hbR2); assumption) | exact (((hB).trans ((below_undrew' hbR0).mono (hB).size)).trans (hbR1.mono ((hB).trans ((below_undrew' hbR0).mono (hB).size)).size)).trans (hbR2.mono (((hB).trans ((below_undrew' hbR0).mono (hB).size)).trans (hbR1.mono ((hB).trans ((below_undrew' hbR0).mono (hB).size)).size)).size))
      (first | (go_at_call 75; (with_reducible refine (within_as (k.levels.length : Int) 1 4 true hin _).mono ?_); rintro e wR0 ⟨rfl, hbR0⟩) | (go_at_call 76; (with_reducible refine (forms_any k _ _ _ hfb (by exact hv0.below ((hB).trans ((below_undrew' hbR0).mono (hB).size)))).mono ?_); rintro e wR1 ⟨⟨av, af, rfl, ar⟩, hbR1⟩) | (go_at_call 21; (with_reducible refine (formsOk_any k.sig k.levels.flatten _ _ _ _ _ hfb (by exact hs.below (((hB).trans ((below_undrew' hbR0).mono (hB).size)).trans (hbR1.mono ((hB).trans ((below_undrew' hbR0).mono (hB).size)).size))) (by exact ar)).mono ?_); rintro e wR2 ⟨rfl, hbR2⟩)) | fail
    have hb := below_undrew' hbR0
    clear hbR0
    replace X0 := cells_later X0 hlX0 hb
    replace hB := hB.trans (hb.mono hz0)
    have hzn := hb.size
    replace hlX0 := Nat.lt_of_lt_of_le hlX0 hzn
    replace hz0 := Nat.le_trans hz0 hzn
    clear hb hzn
    have hb := hbR1
    clear hbR1
    replace X0 := cells_later X0 hlX0 hb
    replace hB := hB.trans (hb.mono hz0)
    have hzn := hb.size
    replace hlX0 := Nat.lt_of_lt_of_le hlX0 hzn
    replace hz0 := Nat.le_trans hz0 hzn
    clear hb hzn
    have hb := hbR2
    clear hbR2
    replace X0 := cells_later X0 hlX0 hb
    replace hB := hB.trans (hb.mono hz0)
    have hzn := hb.size
    replace hlX0 := Nat.lt_of_lt_of_le hlX0 hzn
    replace hz0 := Nat.le_trans hz0 hzn
    clear hb hzn
    clear C0_0 C0_1
    go_wp2_with fail
    go_ret
    exact ⟨retB HE.out.symm, hB⟩
set_option maxRecDepth 100000 in
set_option maxHeartbeats 4000000 in
theorem stackOkS_any (k : Stk) (vs : List Value) (f : List Nat) (w : World) (hbig : wtV k.cd ≤ 1048576) (hv : RdVs w k.cd vs f) :
    Calls Tryz.prog 24 #[.agg vs.toArray] w fun e w' => e = .returned (.bool k.okK) ∧ Below w.heap.size w w' := by
  have hv0 := hv
  obtain ⟨a0, c0, f0, a1, c1, f1, rfl, _, m0, m1⟩ := Stk.open hv
  have hs := Sg.close m0
  have hfb := Stk.flat_big hbig
  have hlen := rd_len m1
  clear hv m0 m1
  have X0 := cell_new w #[.slice a0 k.sig.syms.length c0, .slice a1 k.levels.length c1] 69
  have hB := below_alloc w (.cells #[.slice a0 k.sig.syms.length c0, .slice a1 k.levels.length c1] 69)
  have hz0 := hB.size
  have hlX0 : w.heap.size < (w.alloc (.cells #[.slice a0 k.sig.syms.length c0, .slice a1 k.levels.length c1] 69)).heap.size := by simp
  go_enter Tryz.func24, Tryz.ntmps24
  go_wp2_with fail
  by_cases h1 : 1 ≤ k.levels.length
  · have d1 : decide ((1 : Int) ≤ (k.levels.length : Int)) = true := by simp; omega
    by_cases h2 : k.levels.length ≤ 4
    · have d2 : decide ((k.levels.length : Int) ≤ 4) = true := by simp; omega
      have HE := Lib.hid (Stk.okK_yes (k := k) (by rw [d1, d2]; rfl))
      have C0_0 := X0 0
      have C0_1 := X0 1
      simp only [List.getElem?_toArray, List.getElem?_cons_zero, List.getElem?_cons_succ] at C0_0 C0_1
      first | go_region_held3 (fun W => W.cell? ⟨w.heap.size, 0, none⟩ = some (.slice a0 k.sig.syms.length c0) ∧ W.cell? ⟨w.heap.size, 1, none⟩ = some (.slice a1 k.levels.length c1) ∧ Below w.heap.size w W)
        (first | exact ⟨C0_0, C0_1, hB.drew⟩ | (refine ⟨?_, ?_, (hB).trans ((below_undrew' hbR0).mono (hB).size)⟩ <;> (refine (cell_keep ?_ (below_undrew' hbR0)); assumption)) | (refine (cell_keep ?_ (below_undrew' hbR0)); assumption) | exact (hB).trans ((below_undrew' hbR0).mono (hB).size) | (refine ⟨?_, ?_, ((hB).trans ((below_undrew' hbR0).mono (hB).size)).trans (hbR1.mono ((hB).trans ((below_undrew' hbR0).mono (hB).size)).size)⟩ <;> (refine (cell_keep (cell_keep ?_ (below_undrew' hbR0)) hbR1); assumption)) | (refine (cell_keep (cell_keep ?_ (below_undrew' hbR0)) hbR1); assumption) | exact ((hB).trans ((below_undrew' hbR0).mono (hB).size)).trans (hbR1.mono ((hB).trans ((below_undrew' hbR0).mono (hB).size)).size))
        (first | (go_at_call 73; (with_reducible refine (l14Forms_any k _ _ _ hfb (by exact hv0.below (hB.drew))).mono ?_); rintro e wR0 ⟨⟨av, af, rfl, ar⟩, hbR0⟩) | (go_at_call 19; (with_reducible refine (formsOkS_any k.sig k.levels.flatten _ _ _ _ _ hfb (by exact hs.below ((hB).trans ((below_undrew' hbR0).mono (hB).size))) (by exact ar)).mono ?_); rintro e wR1 ⟨rfl, hbR1⟩)) | fail
      have hb := below_undrew' hbR0
      clear hbR0
      replace X0 := cells_later X0 hlX0 hb
      replace hB := hB.trans (hb.mono hz0)
      have hzn := hb.size
      replace hlX0 := Nat.lt_of_lt_of_le hlX0 hzn
      replace hz0 := Nat.le_trans hz0 hzn
      clear hb hzn
      have hb := hbR1
      clear hbR1
      replace X0 := cells_later X0 hlX0 hb
      replace hB := hB.trans (hb.mono hz0)
      have hzn := hb.size
      replace hlX0 := Nat.lt_of_lt_of_le hlX0 hzn
      replace hz0 := Nat.le_trans hz0 hzn
      clear hb hzn
      clear C0_0 C0_1
      go_wp2_with fail
      go_ret
      exact ⟨retB HE.out.symm, hB⟩
    · have d2 : decide ((k.levels.length : Int) ≤ 4) = false := by simp; omega
      have HE := Lib.hid (Stk.okK_no (k := k) (by rw [d1, d2]; rfl))
      generalize hWW : w.alloc (.cells #[.slice a0 k.sig.syms.length c0, .slice a1 k.levels.length c1] 69) = W0 at *
      clear hWW
      have C0_0 := X0 0
      have C0_1 := X0 1
      simp only [List.getElem?_toArray, List.getElem?_cons_zero, List.getElem?_cons_succ] at C0_0 C0_1
      clear X0
      go_quiet (fail)
      go_wp2_with fail
      go_ret
      exact ⟨retB HE.out.symm, below_drewNs hB⟩
  · have d1 : decide ((1 : Int) ≤ (k.levels.length : Int)) = false := by simp; omega
    have HE := Lib.hid (Stk.okK_no (k := k) (by rw [d1]; rfl))
    generalize hWW : w.alloc (.cells #[.slice a0 k.sig.syms.length c0, .slice a1 k.levels.length c1] 69) = W0 at *
    clear hWW
    have C0_0 := X0 0
    have C0_1 := X0 1
    simp only [List.getElem?_toArray, List.getElem?_cons_zero, List.getElem?_cons_succ] at C0_0 C0_1
    clear X0
    go_quiet (fail)
    go_wp2_with fail
    go_ret
    exact ⟨retB HE.out.symm, below_drewNs hB⟩
end Go.Proofs.YtlcfophhjflpdaaGreat
