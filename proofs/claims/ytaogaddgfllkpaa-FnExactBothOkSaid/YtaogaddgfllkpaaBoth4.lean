/- BothOk, the reference's. -/
import Derived.Test.YtaogaddgfllkpaaBoth3
namespace Go.Proofs.Ytaogaddgfllkpaa
open Go Go.RowKit
set_option linter.unusedVariables false
set_option linter.unusedSimpArgs false

def numS (s : Sg) (t : Tm) : Bool := (t.srt s).getD (-1) == 1
theorem numS_succ (s : Sg) (ts : List Tm) (k : Nat) (h : k < ts.length) : (ts.take (k + 1)).filter (numS s) = (ts.take k).filter (numS s) ++ (if numS s ts[k] = true then [ts[k]] else []) := by
  rw [List.take_succ_eq_append_getElem h, List.filter_append]
  congr 1
  simp [List.filter_cons]

set_option maxHeartbeats 4000000 in
theorem l8Nums_any (s : Sg) (hok : Hid (s.okB = true)) (ts : List Tm) (us : List Value) (v : Value) (f f' : List Nat) (w : World) (hlen : ts.length ≤ 1000000000) (hv : RdVs w s.cd us f') (hx : Rd w (.sl (ts.map Tm.cd)) v f) :
    Calls Try.prog 203 #[.agg us.toArray, v] w fun e w' => (∃ rv rf, e = .returned rv ∧ Rd w' (.sl ((ts.filter (numS s)).map Tm.cd)) rv rf) ∧ Below w.heap.size w w' := by
  obtain ⟨a0, c0, f0, rfl, _, n0⟩ := Sg.open hv
  obtain ⟨a, cap, rfl, hc1, hc2⟩ := rd_sl_inv hx
  have hfl := hx.lt _
  go_enter Try.func203, Try.ntmps203
  go_wp2_with fail
  go_loopw [5, 6] (fun ov i wq => ∃ (k : Nat) (fp : List Nat), k ≤ ts.length ∧ i = .int .i64 k ∧ Own wq (w.heap.size + 1) 45 2 ov (((ts.take k).filter (numS s)).map Tm.cd) fp ∧ (∀ y ∈ fp, y < w.heap.size) ∧ wq.cell? ⟨w.heap.size, 0, none⟩ = some (.slice a0 s.syms.length c0) ∧ w.heap.size + 1 ≤ wq.heap.size ∧ Below w.heap.size w wq) (fun _ i _ => ts.length - (intOf i).toNat)
  case atStart =>
    have e1 : (w.alloc (.cells #[.slice a0 s.syms.length c0] 77)).heap.size = w.heap.size + 1 := by simp
    refine ⟨0, [], Nat.zero_le _, rfl, ?_, by simp, ?_, by simp, (below_alloc _ _).alloc (by simp) _⟩
    · have := Own.empty (w.alloc (.cells #[.slice a0 s.syms.length c0] 77)) (w.heap.size + 1) 45 2 (by simp)
      rw [e1] at this; exact this
    · have := cell_new w #[.slice a0 s.syms.length c0] 77 0
      exact cell_keep this (below_alloc _ _)
  case round =>
    obtain ⟨k, fp, hkl, rfl, hown, hfp, cx, hz', hb⟩ := hrel
    have hz := hb.size
    by_cases hlt : k < ts.length
    · obtain ⟨b, off, rfl, hbs, _⟩ := rd_addr hx (by omega)
      have hbz : b < wr.heap.size := by omega
      have hz3 : w.heap.size < wr.heap.size := by omega
      obtain ⟨e1, g1, h1, d0, d1, t0, t1, hsub⟩ := Tm.at (hx.below hb) hlt
      have htr := Tm.rdv t0 t1
      have hvr := hv.below hb
      have HL := Lib.hid (fun W (hW : Below wr.heap.size wr W) => (l4Of_any s hok ts[k].size ts[k] _ _ _ _ W (Nat.le_refl _) (hvr.below hW) (htr.below hW)))
      have HSUC := Lib.hid (numS_succ s ts k hlt)
      obtain ⟨z, hz0⟩ : ∃ z, (ts[k].srt s).getD (-1) = z := ⟨_, rfl⟩
      have HZ := Lib.hid (show numS s ts[k] = (z == 1) by unfold numS; rw [hz0])
      have HL2 : Hid (∀ W, Below wr.heap.size wr W → Calls Try.prog 184 #[.agg [.slice a0 s.syms.length c0].toArray, .agg [.string ts[k].name, .slice e1 ts[k].kids.length g1].toArray] W (fun e w' => e = .returned (.int .i64 z) ∧ Below W.heap.size W w')) := Lib.hid (fun W hW => (HL.out W hW).mono fun e w' h => by unfold OfOut at h; rw [hz0] at h; exact h)
      clear hz0 HL
      have q0 := cell_regrown cx
      have q2 := cell_regrown d0
      have q3 := cell_regrown d1
      have hl : (((ts.take k).filter (numS s)).map Tm.cd).length ≤ ts.length := by rw [List.length_map]; have h1 := List.length_filter_le (numS s) (ts.take k); rw [List.length_take] at h1; omega
      go_wp2_with fail
      cases hn : (z == 1)
      · have HS : Hid ((ts.take (k + 1)).filter (numS s) = (ts.take k).filter (numS s)) := Lib.hid (by rw [HSUC.out, HZ.out, hn]; simp)
        refine wp_region_quiet_below (by kernel_rfl) (by kernel_rfl) ?_
        repeat (first | go_big_quiet_skip | quiet_step ((go_at_call 184; with_reducible refine Calls.regrown_of (HL2.out _ (below_regrown _ _ _)))))
        refine wpQuiet_nil ?_
        intro w9 hw9
        obtain ⟨⟨dq, osq⟩, hw9⟩ := hw9
        have hb9 : Below wr.heap.size wr w9 := hw9 ▸ below_regrown wr dq osq
        clear hw9
        go_wp2_with fail
        go_roundw
        case rel =>
          refine ⟨k + 1, fp, by omega, by go_num, ?_, hfp, cell_keep cx hb9, Nat.le_trans hz' hb9.size, hb.trans (hb9.mono hz)⟩
          rw [HS.out]; exact hown.below hb9
        case measure => simp [intOf]; omega
      · have HS : Hid ((ts.take (k + 1)).filter (numS s) = (ts.take k).filter (numS s) ++ [ts[k]]) := Lib.hid (by rw [HSUC.out, HZ.out, hn]; simp)
        refine wp_region_quiet_below (by kernel_rfl) (by kernel_rfl) ?_
        repeat (first | go_big_quiet_skip | quiet_step ((go_at_call 184; with_reducible refine Calls.regrown_of (HL2.out _ (below_regrown _ _ _)))))
        refine wpQuiet_nil ?_
        intro w9 hw9
        obtain ⟨⟨dq, osq⟩, hw9⟩ := hw9
        have hb9 : Below wr.heap.size wr w9 := hw9 ▸ below_regrown wr dq osq
        clear hw9
        have hz9 := hb9.size
        have d0w := cell_keep d0 hb9
        have d1w := cell_keep d1 hb9
        have hbz9 : b < w9.heap.size := by omega
        have hown2 := (hown.below hb9).below (below_alloc w9 (.cells #[.string ts[k].name, .slice e1 ts[k].kids.length g1] 45))
        have t1w := (t1.below hb9).below (below_alloc w9 (.cells #[.string ts[k].name, .slice e1 ts[k].kids.length g1] 45))
        have cxw := cell_keep (cell_keep cx hb9) (below_alloc w9 (.cells #[.string ts[k].name, .slice e1 ts[k].kids.length g1] 45))
        go_wp2_with (at_builtin; refine wpList_app slTerm rfl _ _ rfl (w.heap.size + 1) _ _ _ rfl hown2 ⟨w9.heap.size, 0, none⟩ 1 1 [ts[k].cd] [.string ts[k].name, .slice e1 ts[k].kids.length g1] h1 rfl rfl ?rd ?k ?cells ?na ?bytes ?len ?base ?next)
        case rd => simpa using Tm.rdv t0 t1w
        case k => simp [Tm.cd_len]
        case cells => exact cells_new _ _ _
        case na => exact fun y hy e => by have h1 := (hown.block e).1; have h2 := hfl y (hsub y hy); omega
        case bytes => omega
        case len => omega
        case base => (simp; try omega)
        case next =>
          intro v' w4 hown4 hg hv' hs4
          have hB9 := hb.trans (hb9.mono hz)
          have hb4 := grown_below (hB9.alloc (by omega) _) hg (by simp; try omega) (fun q hq => by have := (hown.block hq).1; omega)
          have cx4 := grown_cell hg cxw (hown.row_ne (by omega))
          have hz4 := hg.size
          simp at hz4
          clear hg hs4
          go_wp2_with fail
          go_roundw
          case rel =>
            refine ⟨k + 1, fp ++ h1, by omega, by go_num, ?_, fun y hy => ?_, cx4, by omega, hb4⟩
            · rw [HS.out, List.map_append]; exact hown4
            · rcases List.mem_append.1 hy with h | h
              · exact hfp y h
              · exact hfl y (hsub y h)
          case measure => simp [intOf]; omega
    · have he : ts.take k = ts := List.take_of_length_le (by omega)
      rw [he] at hown
      clear he
      obtain ⟨oa, on, oc, rfl⟩ := hown.form'
      obtain ⟨fp', hr⟩ := hown.rd'
      go_wp2_with fail
      go_ret
      exact ⟨⟨_, fp', rfl, hr⟩, hb⟩

set_option maxHeartbeats 4000000 in
theorem l8Right_any (s : Sg) (ls : List Lt) (us : List Value) (v : Value) (f f' : List Nat) (w : World) (hl6 : Hid (ls.length ≤ 6)) (hsm : ∀ l ∈ ls, l.atom.small) (hbig : Tm.sizes (litsU ls) ≤ 1000000000) (hv : RdVs w s.cd us f') (hx : Rd w (.sl (ls.map Lt.cd)) v f) :
    Calls Try.prog 151 #[.agg us.toArray, v] w fun e w' => e = .returned (.bool (bothB s ls)) ∧ Below w.heap.size w w' := by
  obtain ⟨a0, c0, f0, rfl, _, n0⟩ := Sg.open hv
  obtain ⟨a, cap, rfl, hc1, hc2⟩ := rd_sl_inv hx
  have hlen := rd_len hx
  have HSM := Lib.hid hsm
  clear hsm
  have hb0 := below_alloc w (.cells #[.slice a0 s.syms.length c0] 77)
  go_enter Try.func151, Try.ntmps151
  go_wp2_with fail
  go_loopw [5] (fun i wq => ∃ k : Nat, k ≤ ls.length ∧ i = .int .i64 k ∧ Hid ((ls.take k).all (fun l => atomB s l.atom) = true) ∧ wq.cell? ⟨w.heap.size, 0, none⟩ = some (.slice a0 s.syms.length c0) ∧ w.heap.size + 1 ≤ wq.heap.size ∧ Below w.heap.size w wq) (fun i _ => ls.length - (intOf i).toNat)
  case atStart => exact ⟨0, Nat.zero_le _, rfl, Lib.hid (by simp), cell_new w #[.slice a0 s.syms.length c0] 77 0, by simp, hb0⟩
  case round =>
    obtain ⟨k, hkl, rfl, hall, cx, hz', hb⟩ := hrel
    have hz := hb.size
    by_cases hlt : k < ls.length
    · obtain ⟨b, off, rfl, hbs, _⟩ := rd_addr hx (by omega)
      have hbz : b < wr.heap.size := by omega
      have hz3 : w.heap.size < wr.heap.size := by omega
      obtain ⟨a2, c2, f2, a4, c4, f4, a5, c5, f5, a6, c6, f6, d0, d1, d2, d3, d4, d5, d6, d7, d8, d9, m0, m1, m2, m3, m4, m5, m6, m7, _⟩ := Lt.at (hx.below hb) hlt
      have hat := Atm.close (x := ls[k].atom) m0 m1 m2 m3 m4 m5 m6 m7
      have hvr := hv.below hb
      have HSL := Lib.hid (HSM.out _ (List.getElem_mem hlt))
      have HC : Hid (∀ W, Below wr.heap.size wr W → Calls Try.prog 201 #[.agg [.slice a0 s.syms.length c0].toArray, .agg #[.int .i64 ls[k].atom.kind, .string ls[k].atom.a.name, .slice a2 ls[k].atom.a.kids.length c2, .string ls[k].atom.b.name, .slice a4 ls[k].atom.b.kids.length c4, .slice a5 ls[k].atom.nums.length c5, .slice a6 ls[k].atom.times.length c6, .int .i64 ls[k].atom.bound, .bool ls[k].atom.strict]] W (fun e w' => e = .returned (.bool (atomB s ls[k].atom)) ∧ Below W.heap.size W w')) := Lib.hid (fun W hW => atomOkS_any s ls[k].atom _ _ _ _ W HSL.out (hvr.below hW) (hat.below hW))
      have q0 := cell_regrown cx
      have r0 := cell_regrown d0
      have r1 := cell_regrown d1
      have r2 := cell_regrown d2
      have r3 := cell_regrown d3
      have r4 := cell_regrown d4
      have r5 := cell_regrown d5
      have r6 := cell_regrown d6
      have r7 := cell_regrown d7
      have r8 := cell_regrown d8
      go_wp2_with fail
      cases ho : atomB s ls[k].atom
      · have HF := Lib.hid (bothB_one hlt ho)
        refine wp_region_quiet_below (by kernel_rfl) (by kernel_rfl) ?_
        repeat (first | go_big_quiet_skip | quiet_step ((go_at_call 201; with_reducible refine Calls.regrown_of (HC.out _ (below_regrown _ _ _)))))
        refine wpQuiet_nil ?_
        intro w9 hw9
        obtain ⟨⟨dq, osq⟩, hw9⟩ := hw9
        have hb9 : Below wr.heap.size wr w9 := hw9 ▸ below_regrown wr dq osq
        clear hw9
        go_wp2_with fail
        go_ret
        exact ⟨retB HF.out.symm, hb.trans (hb9.mono hz)⟩
      · have HE := Lib.hid (lits_succ hlt hall.out ho)
        refine wp_region_quiet_below (by kernel_rfl) (by kernel_rfl) ?_
        repeat (first | go_big_quiet_skip | quiet_step ((go_at_call 201; with_reducible refine Calls.regrown_of (HC.out _ (below_regrown _ _ _)))))
        refine wpQuiet_nil ?_
        intro w9 hw9
        obtain ⟨⟨dq, osq⟩, hw9⟩ := hw9
        have hb9 : Below wr.heap.size wr w9 := hw9 ▸ below_regrown wr dq osq
        clear hw9
        go_wp2_with fail
        go_roundw
        case rel => exact ⟨k + 1, by omega, by go_num, HE, cell_keep cx hb9, Nat.le_trans hz' hb9.size, hb.trans (hb9.mono hz)⟩
        case measure => simp [intOf]; omega
    · have HALL : Hid (ls.all (fun l => atomB s l.atom) = true) := Lib.hid (by have h := hall.out; rwa [List.take_of_length_le (by omega)] at h)
      have HU := Lib.hid (lits_same HALL.out)
      have hln := Tm.addPs_len (litsT ls) []
      simp only [List.length_nil, Nat.zero_add] at hln
      have hbig' := hbig
      rw [HU.out] at hbig'
      have h6 := hl6.out
      go_wp2_with fail
      refine (l8Terms_any ls _ _ _ HSM.out hbig (by omega) (hx.below hb)).mono ?_
      rintro e w4 ⟨pv, pf, rfl, hp, _, hb4⟩
      rw [HU.out] at hp
      obtain ⟨pa, pc, rfl, hl1, hl2⟩ := rd_sl_inv hp
      have hB4 := hb.trans (hb4.mono hz)
      have cx4 := cell_keep cx hb4
      clear hb4
      go_wp2_with fail
      refine (sigOkS_any s _ _ _ (by exact hv.below hB4)).mono ?_
      rintro e w5 ⟨rfl, hb5⟩
      have hB5 := hB4.trans (hb5.mono hB4.size)
      have cx5 := cell_keep cx4 hb5
      have hp5 := hp.below hb5
      clear hb5
      cases h1 : s.okB
      · have HF := Lib.hid (bothB_sig (ls := ls) h1)
        clear h1
        go_wp2_with fail
        go_ret
        exact ⟨retB HF.out.symm, hB5⟩
      have H1 := Lib.hid h1
      clear h1
      have HF := Lib.hid (bothB_all H1.out h6 HALL.out)
      have HNU := Lib.hid (lits_nums H1.out HALL.out)
      by_cases g1 : (Tm.addPs [] (litsT ls)).length ≤ 24
      rotate_left
      · have t3 : decide (((Tm.addPs [] (litsT ls)).length : Int) ≤ 24) = false := by simp; omega
        have HG : Hid (bothB s ls = false) := Lib.hid (by rw [HF.out, decide_eq_false g1]; rfl)
        go_wp2_with fail
        go_ret
        exact ⟨retB HG.out.symm, hB5⟩
      have t3 : decide (((Tm.addPs [] (litsT ls)).length : Int) ≤ 24) = true := by simp; omega
      have HG := Lib.hid (HF.out.trans (by rw [decide_eq_true g1, Bool.true_and]))
      go_wp2_with fail
      refine (l8Nums_any s H1 (Tm.addPs [] (litsT ls)) _ _ _ _ _ (by omega) (hv.below hB5) hp5).mono ?_
      rintro e w6 ⟨⟨nv, nf, rfl, hn⟩, hb6⟩
      have hn2 : Rd w6 (.sl (((Tm.addPs [] (litsT ls)).filter (Tm.isNum s)).map Tm.cd)) nv nf := by rw [← HNU.out]; exact hn
      obtain ⟨na, nc, rfl, hl3, hl4⟩ := rd_sl_inv hn2
      have hB6 := hB5.trans (hb6.mono hB5.size)
      clear hb6 hn hn2
      go_wp2_with fail
      go_ret
      exact ⟨retB (by rw [HG.out]; simp; try omega), hB6⟩

theorem bothOkS_any (s : Sg) (ls : List Lt) (us : List Value) (v : Value) (f f' : List Nat) (w : World) (hsm : ∀ l ∈ ls, l.atom.small) (hbig : Tm.sizes (litsU ls) ≤ 1000000000) (hv : RdVs w s.cd us f') (hx : Rd w (.sl (ls.map Lt.cd)) v f) :
    Calls Try.prog 75 #[.agg us.toArray, v] w fun e w' => e = .returned (.bool (bothB s ls)) ∧ Below w.heap.size w w' := by
  obtain ⟨a0, c0, f0, rfl, _, n0⟩ := Sg.open hv
  obtain ⟨a, cap, rfl, hc1, hc2⟩ := rd_sl_inv hx
  have hlen := rd_len hx
  have hb0 := below_alloc w (.cells #[.slice a0 s.syms.length c0] 77)
  by_cases h2 : ls.length ≤ 6
  · have t2 : decide ((ls.length : Int) ≤ 6) = true := by simp; omega
    go_enter Try.func75, Try.ntmps75
    go_wp2_with fail
    refine (l8Right_any s ls _ _ _ _ _ (Lib.hid h2) hsm hbig (by exact hv.below hb0) (by exact hx.below hb0)).mono ?_
    rintro e w1 ⟨rfl, hb⟩
    go_wp2_with fail
    go_ret
    exact ⟨rfl, hb0.trans (hb.mono hb0.size)⟩
  · have t2 : decide ((ls.length : Int) ≤ 6) = false := by simp; omega
    have HF := Lib.hid (bothB_len (s := s) h2)
    go_enter Try.func75, Try.ntmps75
    go_wp2_with fail
    go_ret
    exact ⟨retB HF.out.symm, hb0⟩
end Go.Proofs.Ytaogaddgfllkpaa
