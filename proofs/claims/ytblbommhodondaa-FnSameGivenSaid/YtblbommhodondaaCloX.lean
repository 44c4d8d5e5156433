/- The program's closureOf, together, SameIs, SameClass, SameSteps. -/
import Derived.Test.YtblbommhodondaaCloK
import Derived.Test.YtblbommhodondaaCloW
import Derived.Test.YtblbommhodondaaOwn
namespace Go.Proofs.Ytblbommhodondaa
open Go Go.RowKit
set_option linter.unusedVariables false
set_option linter.unusedSimpArgs false

def CloOut (s : Sg) (es : List Eqn) (ms : List Tm) (w : World) (e : Ending) (w' : World) : Prop :=
  Below w.heap.size w w' ∧ ((moreB s es ms = false ∧ e = .returned (.tuple #[.pointer none, .bool false])) ∨
    (moreB s es ms = true ∧ ∃ (cb : Nat) (pv cv sv : Value) (fp : List Nat), e = .returned (.tuple #[.pointer (some ⟨cb, 0, none⟩), .bool true]) ∧ CloAt w' cb pv (cloC es ms) (cloS es ms) cv sv ∧
      Rd w' (.sl ((moreP es ms).map Tm.cd)) pv fp ∧ Fresh w.heap.size w' fp ∧ (∀ b ∈ fp, b < cb) ∧ w.heap.size ≤ cb))
theorem moreB_eqs {s : Sg} {es : List Eqn} {ms : List Tm} (h : eqsB s es = false) : moreB s es ms = false := by simp [moreB, h]
theorem eqsB_wf {s : Sg} {es : List Eqn} (h : eqsB s es = true) : (sidesP es).all Tm.wf = true := by
  simp only [eqsB, Bool.and_eq_true, List.all_eq_true] at h
  exact sides_wf (s := s) (Nat.le_refl _) (fun j _ hj => h.2.2.1 _ (List.getElem_mem hj))
theorem tsrt_wf {s : Sg} {t : Tm} (h : (t.tsrt s).isSome = true) : t.wf = true := by
  cases hw : t.wf
  · rw [Tm.tsrt_bad hw] at h; simp at h
  · rfl
theorem parts_more {s : Sg} {es : List Eqn} {ms : List Tm} {k : Nat} (h : eqsB s es = true) (hk : ms.length ≤ k) (ha : AllSrt s ms k) : Tm.parts (sidesP es ++ ms) = moreP es ms := by
  unfold Tm.parts moreP
  rw [if_pos]
  rw [List.all_append, eqsB_wf h, Bool.true_and, List.all_eq_true]
  intro t ht
  obtain ⟨j, hj, rfl⟩ := List.getElem_of_mem ht
  exact tsrt_wf (ha j (by omega) hj)
set_option maxHeartbeats 4000000 in
theorem closureOf_any (s : Sg) (es : List Eqn) (ms : List Tm) (vs : List Value) (v v2 : Value) (f f' f2 : List Nat) (w : World) (hbig : Tm.sizes (sidesP es ++ ms) ≤ 1000000000) (hbig2 : es.length ≤ 1048576) (hv : RdVs w s.cd vs f) (hx : Rd w (.sl (es.map Eqn.cd)) v f') (h2 : Rd w (.sl (ms.map Tm.cd)) v2 f2) :
    Calls Try.prog 48 #[.agg vs.toArray, v, v2] w (CloOut s es ms w) := by
  obtain ⟨a0, c0, f0, rfl, _, m0⟩ := Sg.open hv
  obtain ⟨a, cap, rfl, hc1, hc2⟩ := rd_sl_inv hx
  obtain ⟨a2, cap2, rfl, hc3, hc4⟩ := rd_sl_inv h2
  have hbs := hbig
  rw [Tm.sizes_append] at hbs
  have hml := Tm.sizes_len ms
  go_enter Try.func48, Try.ntmps48
  go_wp2_with fail
  refine (eqsOk_any s es _ _ _ _ _ (by omega) hbig2 (by exact hv.below (below_alloc _ _)) (by exact hx.below (below_alloc _ _))).mono ?_
  rintro e w1 ⟨rfl, hb1⟩
  obtain ⟨hxL, hzL, hBL⟩ := box1 (w := w) (wr := w1) (cs := #[.slice a0 s.syms.length c0]) (T := 25) (below_size hb1 (by simp))
  have cx1 := hxL 0
  simp only [List.getElem?_toArray, List.getElem?_cons_zero, List.getElem?_cons_succ] at cx1
  clear hxL hb1
  cases h1 : eqsB s es
  · have HF := Lib.hid (moreB_eqs (ms := ms) h1)
    clear h1
    go_wp2_with fail
    go_ret2
    exact ⟨hBL, .inl ⟨HF.out, rfl⟩⟩
  have H1 := Lib.hid h1
  clear h1
  go_wp2_with fail
  go_loopw [19] (fun i wq => ∃ k : Nat, k ≤ ms.length ∧ i = .int .i64 k ∧ Hid (AllSrt s ms k) ∧ wq.cell? ⟨w.heap.size, 0, none⟩ = some (.slice a0 s.syms.length c0) ∧ w.heap.size < wq.heap.size ∧ Below w.heap.size w wq) (fun i _ => ms.length - (intOf i).toNat)
  case atStart => exact ⟨0, Nat.zero_le _, rfl, Lib.hid (fun j hj => by omega), cx1, by omega, hBL⟩
  case round =>
    clear cx1 hBL hzL
    obtain ⟨k, hkl, rfl, hall, cx, hz3, hBM⟩ := hrel
    by_cases hlt : k < ms.length
    · obtain ⟨b, off, rfl, hbs2, _⟩ := rd_addr h2 (by omega)
      have hbz : b < wr.heap.size := by omega
      obtain ⟨b1, e1, g1, d0, d1, t0, t1, _⟩ := Tm.at (h2.below hBM) hlt
      have hbk := below_alloc wr (.cells #[.string ms[k].name, .slice b1 ms[k].kids.length e1] 37)
      have hBk := hBM.trans (hbk.mono hBM.size)
      go_wp2_with fail
      refine (termSort_any s ms[k] _ _ _ _ _ (by exact hv.below hBk) (by exact (Tm.rdv t0 t1).below hbk)).mono ?_
      rintro e w4 ⟨rfl, hb4⟩
      have hB4 := hBk.trans (hb4.mono hBk.size)
      have cx4 := cell_keep (cell_keep cx hbk) hb4
      have hz5 : w.heap.size < w4.heap.size := by have := hbk.size; have := hb4.size; omega
      clear hb4 d0 d1 cx hBk hbk
      cases ho : ms[k].tsrt s with
      | none =>
        have HF := Lib.hid (moreB_no (es := es) hlt (by rw [ho]; rfl))
        clear ho
        simp only [Option.getD_none, Option.isSome_none]
        go_wp2_with fail
        go_ret2
        exact ⟨hB4, .inl ⟨HF.out, rfl⟩⟩
      | some m =>
        have HE := Lib.hid (hall.out.succ hlt (by rw [ho]; rfl))
        clear ho
        simp only [Option.getD_some, Option.isSome_some]
        go_wp2_with fail
        go_roundw
        case rel => exact ⟨k + 1, by omega, by go_num, HE, cx4, hz5, hB4⟩
        case measure => simp [intOf]; omega
    · have HF := Lib.hid (moreB_rest (es := es) (by omega) hall.out)
      have HP := Lib.hid (parts_more H1.out (by omega) hall.out)
      have HG : Hid (moreB s es ms = decide ((moreP es ms).length ≤ 24)) := Lib.hid (by rw [HF.out, H1.out]; rfl)
      have hlp := moreP_len es ms
      go_wp2_with fail
      refine (sidesO_any es _ _ _ hbig2 (hx.below hBM)).mono ?_
      rintro e w4 ⟨⟨rv, fp, rfl, hown, hfp⟩, hb4⟩
      have hB4 := hBM.trans (hb4.mono hBM.size)
      have hz4 := hb4.size
      have hsl : ((sidesP es).map Tm.cd).length = 2 * es.length := by rw [List.length_map, sidesP_len]
      have hml2 : (ms.map Tm.cd).length = ms.length := by simp
      obtain ⟨ra, rn, rc, rfl⟩ := hown.form'
      clear hb4
      go_wp2_with (at_builtin; refine wpList_appAny slTerm rfl _ _ rfl wr.heap.size _ _ _ rfl hown (ms.map Tm.cd) _ f2 rfl (h2.below hB4) ?nk ?na ?bytes ?len ?base ?next)
      case nk => simp only [List.mem_map]; rintro x ⟨t, _, rfl⟩; exact Tm.cd_len t
      case na => intro b hb e; have := (hown.block e).1; have := h2.lt _ b hb; have := hBM.size; omega
      case bytes => rw [hsl, hml2]; omega
      case len => rw [hsl, hml2]; omega
      case base => omega
      case next =>
        intro v' w5 nfp hsub hown5 hg hv' hs5
        rw [← List.map_append] at hown5
        have hB5 := grown_below hB4 hg hB4.size (fun q hq => by have := (hown.block hq).1; have := hBM.size; omega)
        obtain ⟨fq, hrd5⟩ := hown5.rd'
        obtain ⟨ta, tn, tc, rfl⟩ := hown5.form'
        clear hown5 hown hs5 hg hv' hsl hml2
        go_wp2_with fail
        refine (termParts_any (sidesP es ++ ms) _ _ hbig ⟨fq, hrd5⟩).mono ?_
        rintro e w6 ⟨pv, pf, rfl, hp, hpf, hb6⟩
        rw [HP.out] at hp
        have hB6 := hB5.trans (hb6.mono hB5.size)
        have hpf' := hpf.mono hB5.size
        obtain ⟨pa, pc, rfl, _, _⟩ := rd_sl_inv hp
        clear hb6 hrd5 hpf
        by_cases h24 : (moreP es ms).length ≤ 24
        rotate_left
        · have h24b : decide ((24 : Int) < ((moreP es ms).length : Int)) = true := by simp; omega
          have HN : Hid (moreB s es ms = false) := Lib.hid (by rw [HG.out]; exact decide_eq_false h24)
          go_wp2_with fail
          go_ret2
          exact ⟨hB6, .inl ⟨HN.out, rfl⟩⟩
        · have h24b : decide ((24 : Int) < ((moreP es ms).length : Int)) = false := by simp; omega
          have HN : Hid (moreB s es ms = true) := Lib.hid (by rw [HG.out]; exact decide_eq_true h24)
          have h12 := (moreB_yes HN.out).1
          go_wp2_with fail
          refine (closed_any (moreP es ms) es _ _ _ _ (Lib.hid (moreP_ord es ms)) (by omega) (by omega) (Lib.hid (moreP_eqs es ms)) ⟨pf, hp⟩ (hx.below hB6)).mono ?_
          rintro e w7 ⟨rfl, cv, sv, st, hb7⟩
          go_wp2_with fail
          go_ret2
          exact ⟨hB6.trans (hb7.mono hB6.size), .inr ⟨HN.out, w6.heap.size, _, cv, sv, pf, rfl, st, hp.below hb7, hpf'.below hb7, fun b hb => hpf'.lt b hb, hB6.size⟩⟩
theorem sameClass_any (s : Sg) (es : List Eqn) (ms : List Tm) (vs : List Value) (v v2 : Value) (f f' f2 : List Nat) (w : World) (hbig : Tm.sizes (sidesP es ++ ms) ≤ 1000000000) (hbig2 : es.length ≤ 1048576) (hv : RdVs w s.cd vs f) (hx : Rd w (.sl (es.map Eqn.cd)) v f') (h2 : Rd w (.sl (ms.map Tm.cd)) v2 f2) :
    Calls Try.prog 12 #[.agg vs.toArray, v, v2] w fun e w' => ∃ rv fp, e = .returned rv ∧ Rd w' (.sl ((sameCl s es ms).map intCd)) rv fp ∧ Fresh w.heap.size w' fp ∧ Below w.heap.size w w' := by
  obtain ⟨a0, c0, f0, rfl, _, m0⟩ := Sg.open hv
  obtain ⟨a, cap, rfl, hc1, hc2⟩ := rd_sl_inv hx
  obtain ⟨a2, cap2, rfl, hc3, hc4⟩ := rd_sl_inv h2
  have hb0 := below_alloc w (.cells #[.slice a0 s.syms.length c0] 25)
  go_enter Try.func12, Try.ntmps12
  go_wp2_with fail
  refine (closureOf_any s es ms _ _ _ _ _ _ _ hbig hbig2 (by exact hv.below hb0) (by exact hx.below hb0) (by exact h2.below hb0)).mono ?_
  rintro e w1 ⟨hb1, ⟨hm, rfl⟩ | ⟨hm, cb, pv, cv, sv, fp, rfl, st, _, _, _, hcb⟩⟩
  · have hB1 := hb0.trans (hb1.mono hb0.size)
    have HM := Lib.hid (sameCl_no hm)
    clear hm hb1
    go_wp2_with fail
    go_ret
    exact ⟨_, [], rfl, by rw [HM.out]; exact rd_nil0 _ _ (by simp [maxLen]), Fresh.nil _ _, hB1⟩
  · have hB1 := hb0.trans (hb1.mono hb0.size)
    have HM := Lib.hid (sameCl_yes hm)
    have P1 := st.p1
    obtain ⟨ca, cn, cc, rfl⟩ := Own.form' st.crow
    have hzz := hb0.size
    clear hm hb1
    go_wp2_with fail
    go_ret
    obtain ⟨fp', h3, h4, _⟩ := Own.fresh st.crow (Fresh.nil _ _)
    exact ⟨_, fp', rfl, by rw [HM.out]; exact h3, h4.mono (by omega), hB1⟩
theorem sameSteps_any (s : Sg) (es : List Eqn) (ms : List Tm) (vs : List Value) (v v2 : Value) (f f' f2 : List Nat) (w : World) (hbig : Tm.sizes (sidesP es ++ ms) ≤ 1000000000) (hbig2 : es.length ≤ 1048576) (hv : RdVs w s.cd vs f) (hx : Rd w (.sl (es.map Eqn.cd)) v f') (h2 : Rd w (.sl (ms.map Tm.cd)) v2 f2) :
    Calls Try.prog 13 #[.agg vs.toArray, v, v2] w fun e w' => ∃ pv sv fp fs, e = .returned (.tuple #[pv, sv]) ∧ Rd w' (.sl ((sameSt s es ms).1.map Tm.cd)) pv fp ∧ Rd w' (.sl ((sameSt s es ms).2.map Stp.cd)) sv fs ∧ Fresh w.heap.size w' (fp ++ fs) ∧ Below w.heap.size w w' := by
  obtain ⟨a0, c0, f0, rfl, _, m0⟩ := Sg.open hv
  obtain ⟨a, cap, rfl, hc1, hc2⟩ := rd_sl_inv hx
  obtain ⟨a2, cap2, rfl, hc3, hc4⟩ := rd_sl_inv h2
  have hb0 := below_alloc w (.cells #[.slice a0 s.syms.length c0] 25)
  go_enter Try.func13, Try.ntmps13
  go_wp2_with fail
  refine (closureOf_any s es ms _ _ _ _ _ _ _ hbig hbig2 (by exact hv.below hb0) (by exact hx.below hb0) (by exact h2.below hb0)).mono ?_
  rintro e w1 ⟨hb1, ⟨hm, rfl⟩ | ⟨hm, cb, pv, cv, sv, fp, rfl, st, hr, hf, hfl, hcb⟩⟩
  · have hB1 := hb0.trans (hb1.mono hb0.size)
    have HM := Lib.hid (sameSt_no hm)
    clear hm hb1
    go_wp2_with fail
    go_ret2
    exact ⟨_, _, [], [], rfl, by rw [HM.out]; exact rd_nil0 _ _ (by simp [maxLen]), by rw [HM.out]; exact rd_nil0 _ _ (by simp [maxLen]), Fresh.nil _ _, hB1⟩
  · have hB1 := hb0.trans (hb1.mono hb0.size)
    have HM := Lib.hid (sameSt_yes hm)
    obtain ⟨pa, pc, rfl, _, _⟩ := rd_sl_inv hr
    obtain ⟨sa, sn, sc, rfl⟩ := st.srow.form'
    have P0 := st.p0
    have P2 := st.p2
    have hzz := hb0.size
    clear hm hb1
    go_wp2_with fail
    have q0 := cell_regrown P0
    have q1 := cell_regrown P2
    refine wp_region_quiet_below (by kernel_rfl) (by kernel_rfl) ?_
    repeat (quiet_step (fail))
    refine wpQuiet_nil ?_
    intro w4 hw4
    obtain ⟨⟨dq, osq⟩, hw4⟩ := hw4
    have hb4 : Below w1.heap.size w1 w4 := hw4 ▸ below_regrown w1 dq osq
    clear hw4 q0 q1
    have hB4 := hB1.trans (hb4.mono hB1.size)
    have hr4 := hr.below hb4
    have hf4 := hf.below hb4
    have st4 := st.below hb4
    go_wp2_with fail
    go_ret2
    obtain ⟨fs, h3, h4, _⟩ := Own.fresh st4.srow (Fresh.nil _ _)
    exact ⟨_, _, fp, fs, rfl, by rw [HM.out]; exact hr4, by rw [HM.out]; exact h3, (hf4.mono hzz).app (fun b hb => Nat.lt_succ_of_lt (hfl b hb)) (by omega) h4, hB4⟩
end Go.Proofs.Ytblbommhodondaa
