/- BothOk, the reference's. -/
import Derived.Test.YtlcfophhjflpdaaGreatBoth3
namespace Go.Proofs.YtlcfophhjflpdaaGreat
open Go Go.RowKit
set_option linter.unusedVariables false
set_option linter.unusedSimpArgs false

def numS (s : Sg) (t : Tm) : Bool := (t.srt s).getD (-1) == 1
theorem numS_succ (s : Sg) (ts : List Tm) (k : Nat) (h : k < ts.length) : (ts.take (k + 1)).filter (numS s) = (ts.take k).filter (numS s) ++ (if numS s ts[k] = true then [ts[k]] else []) := by
  rw [List.take_succ_eq_append_getElem h, List.filter_append]
  congr 1
  simp [List.filter_cons]

def Tm.rdT (w : World) (t : Tm) (e : Option Addr) (g : Nat) (f : List Nat) : Prop := t.name.size ≤ maxLen ∧ Rd w (.sl (t.kids.map Tm.cd)) (.slice e t.kids.length g) f
theorem rowsT_of {w : World} {ts : List Tm} {a : Option Addr} {n cap : Nat} {f : List Nat} (hx : Rd w (.sl (ts.map Tm.cd)) (.slice a n cap) f) : ∃ fs : List (List Nat), fs.length = ts.length ∧ fs.flatten.Sublist f ∧
    ∀ j (h : j < ts.length) (h' : j < fs.length) b off, a = some ⟨b, off, none⟩ → ∃ e1 g1, w.cell? ⟨b, off + j * 2, none⟩ = some (.string ts[j].name) ∧ w.cell? ⟨b, off + j * 2 + 1, none⟩ = some (.slice e1 ts[j].kids.length g1) ∧ Tm.rdT w ts[j] e1 g1 fs[j] := by
  by_cases h0 : 0 < ts.length
  · obtain ⟨b, off, fr, hb, _, rfl, hrow⟩ := hx.addr (by simpa using h0)
    obtain ⟨vs, hcells, hrv⟩ := hrow.flat
    obtain ⟨fs, h1, rfl, h3⟩ := RdVs.rows hrv
    refine ⟨fs, h1, List.sublist_cons_self _ _, fun j h h' b' off' ha => ?_⟩
    rw [hb] at ha
    simp only [Option.some.injEq, Addr.mk.injEq] at ha
    obtain ⟨rfl, rfl, _⟩ := ha
    obtain ⟨tv, htv, hcc⟩ := (h3 j h h').1
    obtain ⟨e1, g1, f1, rfl, e, t0, t1⟩ := Tm.open htv
    exact ⟨e1, g1, hcells _ _ (hcc 0 _ rfl), hcells _ _ (hcc 1 _ rfl), t0, e ▸ t1⟩
  · have : ts = [] := List.eq_nil_of_length_eq_zero (by omega)
    subst this
    exact ⟨[], rfl, List.nil_sublist _, fun j h => absurd h (by simp)⟩

set_option maxHeartbeats 4000000 in
theorem l8Nums_any (s : Sg) (hok : Hid (s.okB = true)) (ts : List Tm) (us : List Value) (v : Value) (f f' : List Nat) (w : World) (hlen : ts.length ≤ 1000000000) (hv : RdVs w s.cd us f') (hx : Rd w (.sl (ts.map Tm.cd)) v f) (B : Nat) (hB : B ≤ w.heap.size) (hfr : Fresh B w f) :
    Calls Tryz.prog 84 #[.agg us.toArray, v] w fun e w' => (∃ rv rf, e = .returned rv ∧ Rd w' (.sl ((ts.filter (numS s)).map Tm.cd)) rv rf ∧ Fresh B w' rf) ∧ Below w.heap.size w w' := by
  obtain ⟨a0, c0, f0, rfl, _, n0⟩ := Sg.open hv
  obtain ⟨a, cap, rfl, hc1, hc2⟩ := rd_sl_inv hx
  have hfl := hx.lt _
  obtain ⟨fs, hfs1, hfs2, hfs3⟩ := rowsT_of hx
  have HFS := Lib.hid hfs3
  clear hfs3
  go_enter Tryz.func84, Tryz.ntmps84
  go_wp2_with fail
  go_loopw [5, 6] (fun ov i wq => ∃ (k : Nat) (fp : List Nat), k ≤ ts.length ∧ i = .int .i64 k ∧ Own wq (w.heap.size + 1) 45 2 ov (((ts.take k).filter (numS s)).map Tm.cd) fp ∧ Hid (fp.Sublist (fs.take k).flatten) ∧ wq.cell? ⟨w.heap.size, 0, none⟩ = some (.slice a0 s.syms.length c0) ∧ w.heap.size + 1 ≤ wq.heap.size ∧ Below w.heap.size w wq) (fun _ i _ => ts.length - (intOf i).toNat)
  case atStart =>
    have e1 : (w.alloc (.cells #[.slice a0 s.syms.length c0] 41)).heap.size = w.heap.size + 1 := by simp
    refine ⟨0, [], Nat.zero_le _, rfl, ?_, Lib.hid (by simp), ?_, by simp, (below_alloc _ _).alloc (by simp) _⟩
    · have := Own.empty (w.alloc (.cells #[.slice a0 s.syms.length c0] 41)) (w.heap.size + 1) 45 2 (by simp)
      rw [e1] at this; exact this
    · have := cell_new w #[.slice a0 s.syms.length c0] 41 0
      exact cell_keep this (below_alloc _ _)
  case round =>
    obtain ⟨k, fp, hkl, rfl, hown, hfp, cx, hz', hb⟩ := hrel
    have hz := hb.size
    by_cases hlt : k < ts.length
    · obtain ⟨b, off, rfl, hbs, _⟩ := rd_addr hx (by omega)
      have hbz : b < wr.heap.size := by omega
      have hz3 : w.heap.size < wr.heap.size := by omega
      have hkf : k < fs.length := by omega
      obtain ⟨h1, hh1⟩ : ∃ h1, h1 = fs[k] := ⟨_, rfl⟩
      obtain ⟨e1, g1, d0', d1', t0, t1'⟩ := HFS.out k hlt hkf b off rfl
      rw [← hh1] at t1'
      have hsub : ∀ y ∈ h1, y ∈ f := fun y hy => hfs2.subset (mem_flat_at hkf (hh1 ▸ hy))
      have hbw : b < w.heap.size := hbs
      have d0 := cell_keep d0' hb
      have d1 := cell_keep d1' hb
      have t1 := t1'.below hb
      have HSU : Hid ((fs.take (k + 1)).flatten = (fs.take k).flatten ++ h1) := Lib.hid (by rw [flat_take_succ fs k hkf, ← hh1])
      clear d0' d1' t1' hh1
      have htr := Tm.rdv t0 t1
      have hvr := hv.below hb
      have HL := Lib.hid (fun W (hW : Below wr.heap.size wr W) => (l4Of_any s hok ts[k].size ts[k] _ _ _ _ W (Nat.le_refl _) (hvr.below hW) (htr.below hW)))
      have HSUC := Lib.hid (numS_succ s ts k hlt)
      obtain ⟨z, hz0⟩ : ∃ z, (ts[k].srt s).getD (-1) = z := ⟨_, rfl⟩
      have HZ := Lib.hid (show numS s ts[k] = (z == 1) by unfold numS; rw [hz0])
      have HL2 : Hid (∀ W, Below wr.heap.size wr W → Calls Tryz.prog 116 #[.agg [.slice a0 s.syms.length c0].toArray, .agg [.string ts[k].name, .slice e1 ts[k].kids.length g1].toArray] W (fun e w' => e = .returned (.int .i64 z) ∧ Below W.heap.size W w')) := Lib.hid (fun W hW => (HL.out W hW).mono fun e w' h => by unfold OfOut at h; rw [hz0] at h; exact h)
      clear hz0 HL
      have q0 := cell_regrown cx
      have q2 := cell_regrown d0
      have q3 := cell_regrown d1
      have hl : (((ts.take k).filter (numS s)).map Tm.cd).length ≤ ts.length := by rw [List.length_map]; have h1 := List.length_filter_le (numS s) (ts.take k); rw [List.length_take] at h1; omega
      go_wp2_with fail
      cases hn : (z == 1)
      · have HS : Hid ((ts.take (k + 1)).filter (numS s) = (ts.take k).filter (numS s)) := Lib.hid (by rw [HSUC.out, HZ.out, hn]; simp)
        refine wp_region_quiet_below (by kernel_rfl) (by kernel_rfl) ?_
        repeat (first | go_big_quiet_skip | quiet_step ((go_at_call 116; with_reducible refine Calls.regrown_of (HL2.out _ (below_regrown _ _ _)))))
        refine wpQuiet_nil ?_
        intro w9 hw9
        obtain ⟨⟨dq, osq⟩, hw9⟩ := hw9
        have hb9 : Below wr.heap.size wr w9 := hw9 ▸ below_regrown wr dq osq
        clear hw9
        go_wp2_with fail
        go_roundw
        case rel =>
          refine ⟨k + 1, fp, by omega, by go_num, ?_, Lib.hid (hfp.out.trans (by rw [HSU.out]; exact List.sublist_append_left _ _)), cell_keep cx hb9, Nat.le_trans hz' hb9.size, hb.trans (hb9.mono hz)⟩
          rw [HS.out]; exact hown.below hb9
        case measure => simp [intOf]; omega
      · have HS : Hid ((ts.take (k + 1)).filter (numS s) = (ts.take k).filter (numS s) ++ [ts[k]]) := Lib.hid (by rw [HSUC.out, HZ.out, hn]; simp)
        refine wp_region_quiet_below (by kernel_rfl) (by kernel_rfl) ?_
        repeat (first | go_big_quiet_skip | quiet_step ((go_at_call 116; with_reducible refine Calls.regrown_of (HL2.out _ (below_regrown _ _ _)))))
        refine wpQuiet_nil ?_
        intro w9 hw9
        obtain ⟨⟨dq, osq⟩, hw9⟩ := hw9
        have hb9 : Below wr.heap.size wr w9 := hw9 ▸ below_regrown wr dq osq
        clear hw9
        have hz9 := hb9.size
        have d0w := cell_keep d0 hb9
        have d1w := cell_keep d1 hb9
        have hbz9 : b < w9.heap.size := by omega
        have hown2 := (hown.below hb9).below (below_alloc w9 (.cells #[.string ts[k].name, .slice e1 ts[k].kids.length g1] 45))
        have t1w := (t1.below hb9).below (below_alloc w9 (.cells #[.string ts[k].name, .slice e1 ts[k].kids.length g1] 45))
        have cxw := cell_keep (cell_keep cx hb9) (below_alloc w9 (.cells #[.string ts[k].name, .slice e1 ts[k].kids.length g1] 45))
        go_wp2_with (at_builtin; refine wpList_app slTerm rfl _ _ rfl (w.heap.size + 1) _ _ _ rfl hown2 ⟨w9.heap.size, 0, none⟩ 1 1 [ts[k].cd] [.string ts[k].name, .slice e1 ts[k].kids.length g1] h1 rfl rfl ?rd ?k ?cells ?na ?bytes ?len ?base ?next)
        case rd => simpa using Tm.rdv t0 t1w
        case k => simp [Tm.cd_len]
        case cells => exact cells_new _ _ _
        case na => exact fun y hy e => by have h1 := (hown.block e).1; have h2 := hfl y (hsub y hy); omega
        case bytes => omega
        case len => omega
        case base => (simp; try omega)
        case next =>
          intro v' w4 hown4 hg hv' hs4
          have hB9 := hb.trans (hb9.mono hz)
          have hb4 := grown_below (hB9.alloc (by omega) _) hg (by simp; try omega) (fun q hq => by have := (hown.block hq).1; omega)
          have cx4 := grown_cell hg cxw (hown.row_ne (by omega))
          have hz4 := hg.size
          simp at hz4
          clear hg hs4
          go_wp2_with fail
          go_roundw
          case rel =>
            refine ⟨k + 1, fp ++ h1, by omega, by go_num, ?_, Lib.hid (by rw [HSU.out]; exact hfp.out.append (List.Sublist.refl _)), cx4, by omega, hb4⟩
            rw [HS.out, List.map_append]; exact hown4
          case measure => simp [intOf]; omega
    · have he : ts.take k = ts := List.take_of_length_le (by omega)
      rw [he] at hown
      clear he
      obtain ⟨oa, on, oc, rfl⟩ := hown.form'
      have hsl : fp.Sublist f := (hfp.out.trans (flat_take_sub fs k)).trans hfs2
      have hfr2 : Fresh B wr fp := ⟨hsl.nodup hfr.1, fun y hy => (hfr.below hb).2 y (hsl.subset hy)⟩
      obtain ⟨fp', hr, hfr3, _⟩ := (hown.base (base' := B) (fun q hq => by have := (hown.block hq).1; omega)).fresh hfr2
      go_wp2_with fail
      go_ret
      exact ⟨⟨_, fp', rfl, hr, hfr3⟩, hb⟩

set_option maxHeartbeats 4000000 in
theorem l8Right_any (s : Sg) (ls : List Lt) (us : List Value) (v : Value) (f f' : List Nat) (w : World) (hl6 : Hid (ls.length ≤ 6)) (hsm : ∀ l ∈ ls, l.atom.small) (hbig : Tm.sizes (litsU ls) ≤ 1000000000) (hv : RdVs w s.cd us f') (hx : Rd w (.sl (ls.map Lt.cd)) v f) :
    Calls Tryz.prog 100 #[.agg us.toArray, v] w fun e w' => e = .returned (.bool (bothB s ls)) ∧ Below w.heap.size w w' := by
  obtain ⟨a0, c0, f0, rfl, _, n0⟩ := Sg.open hv
  obtain ⟨a, cap, rfl, hc1, hc2⟩ := rd_sl_inv hx
  have hlen := rd_len hx
  have HSM := Lib.hid hsm
  clear hsm
  have hb0 := below_alloc w (.cells #[.slice a0 s.syms.length c0] 41)
  go_enter Tryz.func100, Tryz.ntmps100
  go_wp2_with fail
  go_loopw [5] (fun i wq => ∃ k : Nat, k ≤ ls.length ∧ i = .int .i64 k ∧ Hid ((ls.take k).all (fun l => atomB s l.atom) = true) ∧ wq.cell? ⟨w.heap.size, 0, none⟩ = some (.slice a0 s.syms.length c0) ∧ w.heap.size + 1 ≤ wq.heap.size ∧ Below w.heap.size w wq) (fun i _ => ls.length - (intOf i).toNat)
  case atStart => exact ⟨0, Nat.zero_le _, rfl, Lib.hid (by simp), cell_new w #[.slice a0 s.syms.length c0] 41 0, by simp, hb0⟩
  case round =>
    obtain ⟨k, hkl, rfl, hall, cx, hz', hb⟩ := hrel
    have hz := hb.size
    by_cases hlt : k < ls.length
    · obtain ⟨b, off, rfl, hbs, _⟩ := rd_addr hx (by omega)
      have hbz : b < wr.heap.size := by omega
      have hz3 : w.heap.size < wr.heap.size := by omega
      obtain ⟨a2, c2, f2, a4, c4, f4, a5, c5, f5, a6, c6, f6, d0, d1, d2, d3, d4, d5, d6, d7, d8, d9, m0, m1, m2, m3, m4, m5, m6, m7, _⟩ := Lt.at (hx.below hb) hlt
      have hat := Atm.close (x := ls[k].atom) m0 m1 m2 m3 m4 m5 m6 m7
      have hvr := hv.below hb
      have HSL := Lib.hid (HSM.out _ (List.getElem_mem hlt))
      have HC : Hid (∀ W, Below wr.heap.size wr W → Calls Tryz.prog 136 #[.agg [.slice a0 s.syms.length c0].toArray, .agg #[.int .i64 ls[k].atom.kind, .string ls[k].atom.a.name, .slice a2 ls[k].atom.a.kids.length c2, .string ls[k].atom.b.name, .slice a4 ls[k].atom.b.kids.length c4, .slice a5 ls[k].atom.nums.length c5, .slice a6 ls[k].atom.times.length c6, .int .i64 ls[k].atom.bound, .bool ls[k].atom.strict]] W (fun e w' => e = .returned (.bool (atomB s ls[k].atom)) ∧ Below W.heap.size W w')) := Lib.hid (fun W hW => atomOkS_any s ls[k].atom _ _ _ _ W HSL.out (hvr.below hW) (hat.below hW))
      have q0 := cell_regrown cx
      have r0 := cell_regrown d0
      have r1 := cell_regrown d1
      have r2 := cell_regrown d2
      have r3 := cell_regrown d3
      have r4 := cell_regrown d4
      have r5 := cell_regrown d5
      have r6 := cell_regrown d6
      have r7 := cell_regrown d7
      have r8 := cell_regrown d8
      go_wp2_with fail
      cases ho : atomB s ls[k].atom
      · have HF := Lib.hid (bothB_one hlt ho)
        refine wp_region_quiet_below (by kernel_rfl) (by kernel_rfl) ?_
        repeat (first | go_big_quiet_skip | quiet_step ((go_at_call 136; with_reducible refine Calls.regrown_of (HC.out _ (below_regrown _ _ _)))))
        refine wpQuiet_nil ?_
        intro w9 hw9
        obtain ⟨⟨dq, osq⟩, hw9⟩ := hw9
        have hb9 : Below wr.heap.size wr w9 := hw9 ▸ below_regrown wr dq osq
        clear hw9
        go_wp2_with fail
        go_ret
        exact ⟨retB HF.out.symm, hb.trans (hb9.mono hz)⟩
      · have HE := Lib.hid (lits_succ hlt hall.out ho)
        refine wp_region_quiet_below (by kernel_rfl) (by kernel_rfl) ?_
        repeat (first | go_big_quiet_skip | quiet_step ((go_at_call 136; with_reducible refine Calls.regrown_of (HC.out _ (below_regrown _ _ _)))))
        refine wpQuiet_nil ?_
        intro w9 hw9
        obtain ⟨⟨dq, osq⟩, hw9⟩ := hw9
        have hb9 : Below wr.heap.size wr w9 := hw9 ▸ below_regrown wr dq osq
        clear hw9
        go_wp2_with fail
        go_roundw
        case rel => exact ⟨k + 1, by omega, by go_num, HE, cell_keep cx hb9, Nat.le_trans hz' hb9.size, hb.trans (hb9.mono hz)⟩
        case measure => simp [intOf]; omega
    · have HALL : Hid (ls.all (fun l => atomB s l.atom) = true) := Lib.hid (by have h := hall.out; rwa [List.take_of_length_le (by omega)] at h)
      have HU := Lib.hid (lits_same HALL.out)
      have hln := Tm.addPs_len (litsT ls) []
      simp only [List.length_nil, Nat.zero_add] at hln
      have hbig' := hbig
      rw [HU.out] at hbig'
      have h6 := hl6.out
      go_wp2_with fail
      refine (l8Terms_any ls _ _ _ HSM.out hbig (by omega) (hx.below hb)).mono ?_
      rintro e w4 ⟨pv, pf, rfl, hp, hpf4, hb4⟩
      rw [HU.out] at hp
      obtain ⟨pa, pc, rfl, hl1, hl2⟩ := rd_sl_inv hp
      have hB4 := hb.trans (hb4.mono hz)
      have cx4 := cell_keep cx hb4
      have hb4z := hb4.size
      clear hb4
      go_wp2_with fail
      refine (sigOkS_any s _ _ _ (by exact hv.below hB4)).mono ?_
      rintro e w5 ⟨rfl, hb5⟩
      have hB5 := hB4.trans (hb5.mono hB4.size)
      have cx5 := cell_keep cx4 hb5
      have hb5z := hb5.size
      have hp5 := hp.below hb5
      have HFR := Lib.hid (hpf4.below hb5)
      clear hb5 hpf4
      cases h1 : s.okB
      · have HF := Lib.hid (bothB_sig (ls := ls) h1)
        clear h1
        go_wp2_with fail
        go_ret
        exact ⟨retB HF.out.symm, hB5⟩
      have H1 := Lib.hid h1
      clear h1
      have HF := Lib.hid (bothB_all H1.out h6 HALL.out)
      have HNU := Lib.hid (lits_nums H1.out HALL.out)
      by_cases g1 : (Tm.addPs [] (litsT ls)).length ≤ 24
      rotate_left
      · have t3 : decide (((Tm.addPs [] (litsT ls)).length : Int) ≤ 24) = false := by simp; omega
        have HG : Hid (bothB s ls = false) := Lib.hid (by rw [HF.out, decide_eq_false g1]; rfl)
        go_wp2_with fail
        go_ret
        exact ⟨retB HG.out.symm, hB5⟩
      have t3 : decide (((Tm.addPs [] (litsT ls)).length : Int) ≤ 24) = true := by simp; omega
      have HG := Lib.hid (HF.out.trans (by rw [decide_eq_true g1, Bool.true_and]))
      have hwr5 : wr.heap.size ≤ w5.heap.size := Nat.le_trans hb4z hb5z
      go_wp2_with fail
      refine (l8Nums_any s H1 (Tm.addPs [] (litsT ls)) _ _ _ _ _ (by omega) (hv.below hB5) hp5 wr.heap.size hwr5 HFR.out).mono ?_
      rintro e w6 ⟨⟨nv, nf, rfl, hn, _⟩, hb6⟩
      have hn2 : Rd w6 (.sl (((Tm.addPs [] (litsT ls)).filter (Tm.isNum s)).map Tm.cd)) nv nf := by rw [← HNU.out]; exact hn
      obtain ⟨na, nc, rfl, hl3, hl4⟩ := rd_sl_inv hn2
      have hB6 := hB5.trans (hb6.mono hB5.size)
      clear hb6 hn hn2
      go_wp2_with fail
      go_ret
      exact ⟨retB (by rw [HG.out]; simp; try omega), hB6⟩

theorem bothOkS_any (s : Sg) (ls : List Lt) (us : List Value) (v : Value) (f f' : List Nat) (w : World) (hsm : ∀ l ∈ ls, l.atom.small) (hbig : Tm.sizes (litsU ls) ≤ 1000000000) (hv : RdVs w s.cd us f') (hx : Rd w (.sl (ls.map Lt.cd)) v f) :
    Calls Tryz.prog 56 #[.agg us.toArray, v] w fun e w' => e = .returned (.bool (bothB s ls)) ∧ Below w.heap.size w w' := by
  obtain ⟨a0, c0, f0, rfl, _, n0⟩ := Sg.open hv
  obtain ⟨a, cap, rfl, hc1, hc2⟩ := rd_sl_inv hx
  have hlen := rd_len hx
  have hb0 := below_alloc w (.cells #[.slice a0 s.syms.length c0] 41)
  by_cases h2 : ls.length ≤ 6
  · have t2 : decide ((ls.length : Int) ≤ 6) = true := by simp; omega
    go_enter Tryz.func56, Tryz.ntmps56
    go_wp2_with fail
    refine (l8Right_any s ls _ _ _ _ _ (Lib.hid h2) hsm hbig (by exact hv.below hb0) (by exact hx.below hb0)).mono ?_
    rintro e w1 ⟨rfl, hb⟩
    go_wp2_with fail
    go_ret
    exact ⟨rfl, hb0.trans (hb.mono hb0.size)⟩
  · have t2 : decide ((ls.length : Int) ≤ 6) = false := by simp; omega
    have HF := Lib.hid (bothB_len (s := s) h2)
    go_enter Tryz.func56, Tryz.ntmps56
    go_wp2_with fail
    go_ret
    exact ⟨retB HF.out.symm, hb0⟩
end Go.Proofs.YtlcfophhjflpdaaGreat
