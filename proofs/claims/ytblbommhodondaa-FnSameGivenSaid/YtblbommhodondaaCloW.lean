/- The reference's SameClass, SameSteps, SameIs. -/
import Derived.Test.YtblbommhodondaaCloU
namespace Go.Proofs.Ytblbommhodondaa
open Go Go.RowKit
set_option linter.unusedVariables false
set_option linter.unusedSimpArgs false

theorem tms2_rd {W : World} {a b : Tm} {u0 u1 v0 v1 : Value} {f1 f2 : List Nat} {g : Nat} (h1 : RdVs W a.cd [u0, u1] f1) (h2 : RdVs W b.cd [v0, v1] f2) (hg : g < W.heap.size) (hc : ∀ j u, [u0, u1, v0, v1][j]? = some u → W.cell? ⟨g, j, none⟩ = some u) : ∃ fp, Rd W (.sl ([a, b].map Tm.cd)) (.slice (some ⟨g, 0, none⟩) 2 2) fp := by
  refine ⟨g :: (f1 ++ f2), ?_⟩
  simp only [Rd]
  refine ⟨_, 2, rfl, by simp, by simp [maxLen], .inr ⟨by simp, g, 0, f1 ++ f2, rfl, hg, rfl, ?_⟩⟩
  refine RdRows.mk (k := 2) (vs := [u0, u1, v0, v1]) (fun j u hj => by simpa using hc j u hj) ?_
  have := h1.app h2
  simpa using this
theorem rd_nil0 {w : World} {α : Type} {cd : α → List CD} (a : Option Addr) (c : Nat) (hc : c ≤ maxLen) : Rd w (.sl (([] : List α).map cd)) (.slice a 0 c) [] := by
  simp only [List.map_nil, Rd]; exact ⟨a, c, rfl, by simp, hc, by simp⟩
/-- SameClass, SameSteps, SameIs. -/
def sameCl (s : Sg) (es : List Eqn) (ms : List Tm) : List Int := if moreB s es ms = true then nats (cloC es ms) else []
def sameSt (s : Sg) (es : List Eqn) (ms : List Tm) : List Tm × List Stp := if moreB s es ms = true then (moreP es ms, cloS es ms) else ([], [])
def sameIsB (s : Sg) (es : List Eqn) (a b : Tm) : Bool := moreB s es [a, b] && (Clo.cl (cloC es [a, b]) (Tm.pos (moreP es [a, b]) a) == Clo.cl (cloC es [a, b]) (Tm.pos (moreP es [a, b]) b))
theorem sameCl_no {s : Sg} {es : List Eqn} {ms : List Tm} (h : moreB s es ms = false) : sameCl s es ms = [] := by unfold sameCl; rw [h]; rfl
theorem sameCl_yes {s : Sg} {es : List Eqn} {ms : List Tm} (h : moreB s es ms = true) : sameCl s es ms = nats (cloC es ms) := by unfold sameCl; rw [h]; rfl
theorem sameSt_no {s : Sg} {es : List Eqn} {ms : List Tm} (h : moreB s es ms = false) : sameSt s es ms = ([], []) := by unfold sameSt; rw [h]; rfl
theorem sameSt_yes {s : Sg} {es : List Eqn} {ms : List Tm} (h : moreB s es ms = true) : sameSt s es ms = (moreP es ms, cloS es ms) := by unfold sameSt; rw [h]; rfl
set_option maxHeartbeats 2000000 in
theorem sameClassS_any (s : Sg) (es : List Eqn) (ms : List Tm) (vs : List Value) (v v2 : Value) (f f' f2 : List Nat) (w : World) (hbig : Tm.sizes (sidesP es ++ ms) ≤ 1000000000) (hv : RdVs w s.cd vs f) (hx : Rd w (.sl (es.map Eqn.cd)) v f') (h2 : Rd w (.sl (ms.map Tm.cd)) v2 f2) :
    Calls Try.prog 15 #[.agg vs.toArray, v, v2] w fun e w' => ∃ rv fp, e = .returned rv ∧ Rd w' (.sl ((sameCl s es ms).map intCd)) rv fp ∧ Fresh w.heap.size w' fp ∧ Below w.heap.size w w' := by
  obtain ⟨a0, c0, f0, rfl, _, m0⟩ := Sg.open hv
  obtain ⟨a, cap, rfl, hc1, hc2⟩ := rd_sl_inv hx
  obtain ⟨a2, cap2, rfl, hc3, hc4⟩ := rd_sl_inv h2
  have hb0 := below_alloc w (.cells #[.slice a0 s.syms.length c0] 25)
  go_enter Try.func15, Try.ntmps15
  go_wp2_with fail
  refine (l5More_any s es ms _ _ _ _ _ _ _ hbig (by exact hv.below hb0) (by exact hx.below hb0) (by exact h2.below hb0)).mono ?_
  rintro e w1 ⟨rfl, hb1⟩
  have hB1 := hb0.trans (hb1.mono hb0.size)
  clear hb1 hb0
  cases hm : moreB s es ms
  · have HM := Lib.hid (sameCl_no hm)
    clear hm
    go_wp2_with fail
    go_ret
    exact ⟨_, [], rfl, by rw [HM.out]; exact rd_nil0 _ _ (by simp), Fresh.nil _ _, hB1.alloc hB1.size _⟩
  · have HM := Lib.hid (sameCl_yes hm)
    obtain ⟨hl12, hl24⟩ := moreB_yes hm
    clear hm
    go_wp2_with fail
    refine (l5Parts_any es ms _ _ _ _ _ hbig (hx.below hB1) (h2.below hB1)).mono ?_
    rintro e w2 ⟨⟨rv, fp, rfl, hr, _⟩, hb2⟩
    have hB2 := hB1.trans (hb2.mono hB1.size)
    change Rd w2 (.sl ((moreP es ms).map Tm.cd)) rv fp at hr
    clear hb2
    go_wp2_with fail
    refine (l5Run_any (moreP es ms) es _ _ _ _ (moreP_ord es ms) (by omega) (by omega) (moreP_eqs es ms) ⟨fp, hr⟩ (hx.below hB2)).mono ?_
    rintro e w3 ⟨sv, cv, rfl, st⟩
    have hB3 := hB2.trans (st.bel.mono hB2.size)
    obtain ⟨ca, cn, cc, rfl⟩ := st.crow.form'
    obtain ⟨sa, sn, sc, rfl⟩ := st.srow.form'
    go_wp2_with fail
    go_ret
    obtain ⟨fp', h3, h4, _⟩ := Own.fresh st.crow (Fresh.nil _ _)
    exact ⟨_, fp', rfl, by rw [HM.out]; exact h3, h4.mono hB2.size, hB3⟩
set_option maxHeartbeats 2000000 in
theorem sameStepsS_any (s : Sg) (es : List Eqn) (ms : List Tm) (vs : List Value) (v v2 : Value) (f f' f2 : List Nat) (w : World) (hbig : Tm.sizes (sidesP es ++ ms) ≤ 1000000000) (hv : RdVs w s.cd vs f) (hx : Rd w (.sl (es.map Eqn.cd)) v f') (h2 : Rd w (.sl (ms.map Tm.cd)) v2 f2) :
    Calls Try.prog 19 #[.agg vs.toArray, v, v2] w fun e w' => ∃ pv sv fp fs, e = .returned (.tuple #[pv, sv]) ∧ Rd w' (.sl ((sameSt s es ms).1.map Tm.cd)) pv fp ∧ Rd w' (.sl ((sameSt s es ms).2.map Stp.cd)) sv fs ∧ Fresh w.heap.size w' (fp ++ fs) ∧ Below w.heap.size w w' := by
  obtain ⟨a0, c0, f0, rfl, _, m0⟩ := Sg.open hv
  obtain ⟨a, cap, rfl, hc1, hc2⟩ := rd_sl_inv hx
  obtain ⟨a2, cap2, rfl, hc3, hc4⟩ := rd_sl_inv h2
  have hb0 := below_alloc w (.cells #[.slice a0 s.syms.length c0] 25)
  go_enter Try.func19, Try.ntmps19
  go_wp2_with fail
  refine (l5More_any s es ms _ _ _ _ _ _ _ hbig (by exact hv.below hb0) (by exact hx.below hb0) (by exact h2.below hb0)).mono ?_
  rintro e w1 ⟨rfl, hb1⟩
  have hB1 := hb0.trans (hb1.mono hb0.size)
  clear hb1 hb0
  cases hm : moreB s es ms
  · have HM := Lib.hid (sameSt_no hm)
    clear hm
    go_wp2_with fail
    go_ret2
    exact ⟨_, _, [], [], rfl, by rw [HM.out]; exact rd_nil0 _ _ (by simp), by rw [HM.out]; exact rd_nil0 _ _ (by simp), Fresh.nil _ _, (hB1.alloc hB1.size _).alloc (by have := hB1.size; simp; omega) _⟩
  · have HM := Lib.hid (sameSt_yes hm)
    obtain ⟨hl12, hl24⟩ := moreB_yes hm
    clear hm
    go_wp2_with fail
    refine (l5Parts_any es ms _ _ _ _ _ hbig (hx.below hB1) (h2.below hB1)).mono ?_
    rintro e w2 ⟨⟨rv, fp, rfl, hr, hf⟩, hb2⟩
    have hB2 := hB1.trans (hb2.mono hB1.size)
    change Rd w2 (.sl ((moreP es ms).map Tm.cd)) rv fp at hr
    clear hb2
    obtain ⟨ra, rc, rfl, _, _⟩ := rd_sl_inv hr
    go_wp2_with fail
    refine (l5Run_any (moreP es ms) es _ _ _ _ (moreP_ord es ms) (by omega) (by omega) (moreP_eqs es ms) ⟨fp, hr⟩ (hx.below hB2)).mono ?_
    rintro e w3 ⟨sv, cv, rfl, st⟩
    have hB3 := hB2.trans (st.bel.mono hB2.size)
    obtain ⟨ca, cn, cc, rfl⟩ := st.crow.form'
    obtain ⟨sa, sn, sc, rfl⟩ := st.srow.form'
    go_wp2_with fail
    go_ret2
    obtain ⟨fs, h3, h4, _⟩ := Own.fresh st.srow (Fresh.nil _ _)
    exact ⟨_, _, fp, fs, rfl, by rw [HM.out]; exact hr.below st.bel, by rw [HM.out]; exact h3, ((hf.mono hB1.size).below st.bel).app (fun b hb => hf.lt b hb) hB2.size h4, hB3⟩
set_option maxHeartbeats 4000000 in
theorem sameIsS_any (s : Sg) (es : List Eqn) (a b : Tm) (vs ua ub : List Value) (v : Value) (f f' fa fb : List Nat) (w : World) (hbig : Tm.sizes (sidesP es ++ [a, b]) ≤ 1000000000) (hv : RdVs w s.cd vs f) (hx : Rd w (.sl (es.map Eqn.cd)) v f') (ha : RdVs w a.cd ua fa) (hb : RdVs w b.cd ub fb) :
    Calls Try.prog 23 #[.agg vs.toArray, v, .agg ua.toArray, .agg ub.toArray] w fun e w' => e = .returned (.bool (sameIsB s es a b)) ∧ Below w.heap.size w w' := by
  obtain ⟨a0, c0, f0, rfl, _, m0⟩ := Sg.open hv
  obtain ⟨ea, ec, rfl, hc1, hc2⟩ := rd_sl_inv hx
  obtain ⟨xa, xc, xf, rfl, _, xs, xk⟩ := Tm.open ha
  obtain ⟨ya, yc, yf, rfl, _, ys, yk⟩ := Tm.open hb
  go_enter Try.func23, Try.ntmps23
  go_wp2_with fail
  have B3 := box3 (w := w) (wr := (((w.alloc (.cells #[.slice a0 s.syms.length c0] 25)).alloc (.cells #[.string a.name, .slice xa a.kids.length xc] 37)).alloc (.cells #[.string b.name, .slice ya b.kids.length yc] 37)).alloc (.cells #[.string a.name, .slice xa a.kids.length xc, .string b.name, .slice ya b.kids.length yc] 37)) (cs := #[.slice a0 s.syms.length c0]) (ds := #[.string a.name, .slice xa a.kids.length xc]) (es := #[.string b.name, .slice ya b.kids.length yc]) (T := 25) (U := 37) (V := 37) ((Below.refl _ _).alloc (by simp) _)
  obtain ⟨X, Y, Z, _, _, hz, hB⟩ := B3
  have X0 := X 0
  have Y0 := Y 0
  have Y1 := Y 1
  have Z0 := Z 0
  have Z1 := Z 1
  simp only [List.getElem?_toArray, List.getElem?_cons_zero, List.getElem?_cons_succ] at X0 Y0 Y1 Z0 Z1
  have R := cell_new (((w.alloc (.cells #[.slice a0 s.syms.length c0] 25)).alloc (.cells #[.string a.name, .slice xa a.kids.length xc] 37)).alloc (.cells #[.string b.name, .slice ya b.kids.length yc] 37)) #[.string a.name, .slice xa a.kids.length xc, .string b.name, .slice ya b.kids.length yc] 37
  simp only [World.size_alloc] at R
  generalize (((w.alloc (.cells #[.slice a0 s.syms.length c0] 25)).alloc (.cells #[.string a.name, .slice xa a.kids.length xc] 37)).alloc (.cells #[.string b.name, .slice ya b.kids.length yc] 37)).alloc (.cells #[.string a.name, .slice xa a.kids.length xc, .string b.name, .slice ya b.kids.length yc] 37) = W at *
  obtain ⟨fm, hm2⟩ := tms2_rd (W := W) (a := a) (b := b) (g := w.heap.size + 1 + 1 + 1) (by exact ha.below hB) (by exact hb.below hB) (World.block_lt_of_cell? _ _ (R 0)) (fun j u hj => by rw [R j]; simpa using hj)
  clear X Y Z R
  refine (l5More_any s es [a, b] _ _ _ _ _ _ _ hbig (by exact hv.below hB) (by exact hx.below hB) (by exact hm2)).mono ?_
  rintro e w1 ⟨rfl, hb1⟩
  have hB1 := hB.trans (hb1.mono hB.size)
  have hms := hm2.below hb1
  have Y0' := cell_keep Y0 hb1
  have Y1' := cell_keep Y1 hb1
  have Z0' := cell_keep Z0 hb1
  have Z1' := cell_keep Z1 hb1
  clear hb1 Y0 Y1 Z0 Z1 X0 hz hm2
  cases hm : moreB s es [a, b]
  · have HM : Hid (sameIsB s es a b = false) := Lib.hid (by unfold sameIsB; rw [hm]; rfl)
    clear hm
    go_wp2_with fail
    go_ret
    exact ⟨retB HM.out.symm, hB1⟩
  · have HM : Hid (sameIsB s es a b = (Clo.cl (cloC es [a, b]) (Tm.pos (moreP es [a, b]) a) == Clo.cl (cloC es [a, b]) (Tm.pos (moreP es [a, b]) b))) := Lib.hid (by unfold sameIsB; rw [hm]; rfl)
    obtain ⟨hl12, hl24⟩ := moreB_yes hm
    clear hm
    go_wp2_with fail
    refine (l5Parts_any es [a, b] _ _ _ _ _ hbig (hx.below hB1) hms).mono ?_
    rintro e w2 ⟨⟨rv, fp, rfl, hr, hf⟩, hb2⟩
    have hB2 := hB1.trans (hb2.mono hB1.size)
    change Rd w2 (.sl ((moreP es [a, b]).map Tm.cd)) rv fp at hr
    have Y0 := cell_keep Y0' hb2
    have Y1 := cell_keep Y1' hb2
    have Z0 := cell_keep Z0' hb2
    have Z1 := cell_keep Z1' hb2
    clear hb2 Y0' Y1' Z0' Z1' hms
    obtain ⟨ra, rc, rfl, _, _⟩ := rd_sl_inv hr
    have hma : a ∈ moreP es [a, b] := moreP_mem (List.mem_append_right _ (by simp))
    have hmb : b ∈ moreP es [a, b] := moreP_mem (List.mem_append_right _ (by simp))
    have HO := Lib.hid (moreP_ord es [a, b])
    have HG := Lib.hid (cloC_good es [a, b]).1
    have HE := Lib.hid (moreP_eqs es [a, b])
    have HCC : Hid (cloC es [a, b] = (Clo.close (moreP es [a, b]) es).1) := Lib.hid rfl
    generalize cloC es [a, b] = cc at HM HG HCC
    generalize moreP es [a, b] = ps at *
    go_wp2_with fail
    refine (l5Run_any ps es _ _ _ _ HO.out (by omega) (by omega) HE.out ⟨fp, hr⟩ (hx.below hB2)).mono ?_
    rintro e w3 ⟨sv, cv, rfl, st⟩
    rw [← HCC.out] at st
    have hB3 := hB2.trans (st.bel.mono hB2.size)
    have Y0' := cell_keep Y0 st.bel
    have Y1' := cell_keep Y1 st.bel
    have Z0' := cell_keep Z0 st.bel
    have Z1' := cell_keep Z1 st.bel
    have hpx := (Tm.pos_yes hma).1
    have hpy := (Tm.pos_yes hmb).1
    obtain ⟨g, cp, rfl, hgB, hgw, hcp⟩ := st.crow.form (by rw [nats_len, HG.out]; omega)
    rw [nats_len] at st hcp ⊢
    have ca := (st.crow.cell (k := Tm.pos ps a) (by rw [nats_len, HG.out]; exact hpx)).1
    have cb := (st.crow.cell (k := Tm.pos ps b) (by rw [nats_len, HG.out]; exact hpy)).1
    rw [Clo.nats_get (by rw [HG.out]; exact hpx)] at ca
    rw [Clo.nats_get (by rw [HG.out]; exact hpy)] at cb
    have hcx : Tm.pos ps a < cc.length := by rw [HG.out]; exact hpx
    have hcy : Tm.pos ps b < cc.length := by rw [HG.out]; exact hpy
    obtain ⟨sa, sn, sc, rfl⟩ := st.srow.form'
    have hvw : TmsR w3 ps (.slice ra ps.length rc) := ⟨fp, hr.below st.bel⟩
    have hxw : TmR w3 a (.agg #[.string a.name, .slice xa a.kids.length xc]) := TmR.mk xs ⟨_, xk.below hB3⟩
    have hyw : TmR w3 b (.agg #[.string b.name, .slice ya b.kids.length yc]) := TmR.mk ys ⟨_, yk.below hB3⟩
    obtain ⟨r, hr0⟩ : ∃ r, r = (Clo.cl cc (Tm.pos ps a) == Clo.cl cc (Tm.pos ps b)) := ⟨_, rfl⟩
    have heb : (((Clo.cl cc (Tm.pos ps a) : Nat) : Int) == ((Clo.cl cc (Tm.pos ps b) : Nat) : Int)) = r := by
      rw [hr0, Bool.eq_iff_iff]; simp only [beq_iff_eq]; omega
    rw [← hr0] at HM
    clear hr0 st Y0 Y1 Z0 Z1 hr
    go_wp2_with fail
    have q0 := cell_regrown Y0'
    have q1 := cell_regrown Y1'
    have q2 := cell_regrown Z0'
    have q3 := cell_regrown Z1'
    have q4 := cell_regrown ca
    have q5 := cell_regrown cb
    refine wp_region_quiet_below (by kernel_rfl) (by kernel_rfl) ?_
    repeat (quiet_step (first
      | (with_reducible refine Calls.regrown_of (l4Place_as ps a _ _ _ HO.out hma (hvw.below (below_regrown _ _ _)) (hxw.below (below_regrown _ _ _))))
      | (with_reducible refine Calls.regrown_of (l4Place_as ps b _ _ _ HO.out hmb (hvw.below (below_regrown _ _ _)) (hyw.below (below_regrown _ _ _))))))
    refine wpQuiet_nil ?_
    intro w4 hw4
    obtain ⟨⟨dq, osq⟩, hw4⟩ := hw4
    have hb4 : Below w3.heap.size w3 w4 := hw4 ▸ below_regrown w3 dq osq
    clear hw4 q0 q1 q2 q3 q4 q5
    go_wp2_with fail
    go_ret
    exact ⟨retB HM.out.symm, hB3.trans (hb4.mono hB3.size)⟩
end Go.Proofs.Ytblbommhodondaa
