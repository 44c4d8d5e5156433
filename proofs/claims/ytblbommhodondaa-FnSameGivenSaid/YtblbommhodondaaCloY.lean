/- The program's together, SameIs. -/
import Derived.Test.YtblbommhodondaaCloX
import Derived.Test.YtblbommhodondaaWt
namespace Go.Proofs.Ytblbommhodondaa
open Go Go.RowKit
set_option linter.unusedVariables false
set_option linter.unusedSimpArgs false

theorem more_big {es : List Eqn} {ms : List Tm} (h1 : es.length + wtR (es.map Eqn.cd) ≤ 1048576) (h2 : ms.length + wtR (ms.map Tm.cd) ≤ 1048576) : Tm.sizes (sidesP es ++ ms) ≤ 1000000000 := by
  have h3 := sides_wt es
  have h4 := Tm.sizes_wtR ms
  rw [Tm.sizes_append, sidesP]
  omega
theorem more_big2 {es : List Eqn} {a b : Tm} (h1 : es.length + wtR (es.map Eqn.cd) ≤ 1048576) (h2 : wtV a.cd ≤ 1048576) (h3 : wtV b.cd ≤ 1048576) : Tm.sizes (sidesP es ++ [a, b]) ≤ 1000000000 := by
  have h4 := sides_wt es
  have h5 := Tm.size_wtV a
  have h6 := Tm.size_wtV b
  rw [Tm.sizes_append, sidesP]
  simp only [Tm.sizes]
  omega
def TogOut (s : Sg) (es : List Eqn) (a b : Tm) (w : World) (e : Ending) (w' : World) : Prop :=
  Below w.heap.size w w' ∧ ((sameIsB s es a b = false ∧ ∃ p, e = .returned (.tuple #[.pointer p, .bool false])) ∨
    (sameIsB s es a b = true ∧ ∃ (cb : Nat) (pv cv sv : Value) (fp : List Nat), e = .returned (.tuple #[.pointer (some ⟨cb, 0, none⟩), .bool true]) ∧ CloAt w' cb pv (cloC es [a, b]) (cloS es [a, b]) cv sv ∧
      Rd w' (.sl ((moreP es [a, b]).map Tm.cd)) pv fp ∧ Fresh w.heap.size w' fp ∧ (∀ b ∈ fp, b < cb) ∧ w.heap.size ≤ cb))
set_option maxHeartbeats 4000000 in
theorem together_any (s : Sg) (es : List Eqn) (a b : Tm) (vs ua ub : List Value) (v : Value) (f f' fa fb : List Nat) (w : World) (hbig : Tm.sizes (sidesP es ++ [a, b]) ≤ 1000000000) (hbig2 : es.length ≤ 1048576) (hv : RdVs w s.cd vs f) (hx : Rd w (.sl (es.map Eqn.cd)) v f') (ha : RdVs w a.cd ua fa) (hb : RdVs w b.cd ub fb) :
    Calls Try.prog 54 #[.agg vs.toArray, v, .agg ua.toArray, .agg ub.toArray] w (TogOut s es a b w) := by
  obtain ⟨a0, c0, f0, rfl, _, m0⟩ := Sg.open hv
  obtain ⟨ea, ec, rfl, hc1, hc2⟩ := rd_sl_inv hx
  obtain ⟨xa, xc, xf, rfl, _, xs, xk⟩ := Tm.open ha
  obtain ⟨ya, yc, yf, rfl, _, ys, yk⟩ := Tm.open hb
  go_enter Try.func54, Try.ntmps54
  go_wp2_with fail
  have B3 := box3 (w := w) (wr := (((w.alloc (.cells #[.slice a0 s.syms.length c0] 25)).alloc (.cells #[.string a.name, .slice xa a.kids.length xc] 37)).alloc (.cells #[.string b.name, .slice ya b.kids.length yc] 37)).alloc (.cells #[.string a.name, .slice xa a.kids.length xc, .string b.name, .slice ya b.kids.length yc] 37)) (cs := #[.slice a0 s.syms.length c0]) (ds := #[.string a.name, .slice xa a.kids.length xc]) (es := #[.string b.name, .slice ya b.kids.length yc]) (T := 25) (U := 37) (V := 37) ((Below.refl _ _).alloc (by simp) _)
  obtain ⟨X, Y, Z, _, _, hz, hB⟩ := B3
  have Y0 := Y 0
  have Y1 := Y 1
  have Z0 := Z 0
  have Z1 := Z 1
  simp only [List.getElem?_toArray, List.getElem?_cons_zero, List.getElem?_cons_succ] at Y0 Y1 Z0 Z1
  have R := cell_new (((w.alloc (.cells #[.slice a0 s.syms.length c0] 25)).alloc (.cells #[.string a.name, .slice xa a.kids.length xc] 37)).alloc (.cells #[.string b.name, .slice ya b.kids.length yc] 37)) #[.string a.name, .slice xa a.kids.length xc, .string b.name, .slice ya b.kids.length yc] 37
  simp only [World.size_alloc] at R
  generalize (((w.alloc (.cells #[.slice a0 s.syms.length c0] 25)).alloc (.cells #[.string a.name, .slice xa a.kids.length xc] 37)).alloc (.cells #[.string b.name, .slice ya b.kids.length yc] 37)).alloc (.cells #[.string a.name, .slice xa a.kids.length xc, .string b.name, .slice ya b.kids.length yc] 37) = W at *
  obtain ⟨fm, hm2⟩ := tms2_rd (W := W) (a := a) (b := b) (g := w.heap.size + 1 + 1 + 1) (by exact ha.below hB) (by exact hb.below hB) (World.block_lt_of_cell? _ _ (R 0)) (fun j u hj => by rw [R j]; simpa using hj)
  clear X Y Z R
  refine (closureOf_any s es [a, b] _ _ _ _ _ _ _ hbig hbig2 (by exact hv.below hB) (by exact hx.below hB) (by exact hm2)).mono ?_
  rintro e w1 ⟨hb1, ⟨hm, rfl⟩ | ⟨hm, cb, pv, cv, sv, fp, rfl, st, hr, hf, hfl, hcb⟩⟩
  · have hB1 := hB.trans (hb1.mono hB.size)
    have HM : Hid (sameIsB s es a b = false) := Lib.hid (by unfold sameIsB; rw [hm]; rfl)
    clear hm hb1 Y0 Y1 Z0 Z1 hm2
    go_wp2_with fail
    refine wp_region_quiet_below (by kernel_rfl) (by kernel_rfl) ?_
    repeat (go_big_quiet_step (fail))
    refine wpQuiet_nil ?_
    intro w4 hw4
    obtain ⟨⟨dq, osq⟩, hw4⟩ := hw4
    have hb4 : Below w1.heap.size w1 w4 := hw4 ▸ below_regrown w1 dq osq
    clear hw4
    go_wp2_with fail
    go_ret2
    exact ⟨hB1.trans (hb4.mono hB1.size), .inl ⟨HM.out, _, rfl⟩⟩
  · have hB1 := hB.trans (hb1.mono hB.size)
    have HM : Hid (sameIsB s es a b = (Clo.cl (cloC es [a, b]) (Tm.pos (moreP es [a, b]) a) == Clo.cl (cloC es [a, b]) (Tm.pos (moreP es [a, b]) b))) := Lib.hid (by unfold sameIsB; rw [hm]; rfl)
    have Y0' := cell_keep Y0 hb1
    have Y1' := cell_keep Y1 hb1
    have Z0' := cell_keep Z0 hb1
    have Z1' := cell_keep Z1 hb1
    have hWz := hB.size
    clear hm hb1 hm2 Y0 Y1 Z0 Z1
    have hma : a ∈ moreP es [a, b] := moreP_mem (List.mem_append_right _ (by simp))
    have hmb : b ∈ moreP es [a, b] := moreP_mem (List.mem_append_right _ (by simp))
    have HO := Lib.hid (moreP_ord es [a, b])
    have HG := Lib.hid (cloC_good es [a, b]).1
    have hpx := (Tm.pos_yes hma).1
    have hpy := (Tm.pos_yes hmb).1
    obtain ⟨g, cp, rfl, hgB, hgw, hcp⟩ := st.crow.form (by rw [nats_len, HG.out]; omega)
    rw [nats_len] at st hcp
    have ca := (st.crow.cell (k := Tm.pos (moreP es [a, b]) a) (by rw [nats_len, HG.out]; exact hpx)).1
    have cb' := (st.crow.cell (k := Tm.pos (moreP es [a, b]) b) (by rw [nats_len, HG.out]; exact hpy)).1
    rw [Clo.nats_get (by rw [HG.out]; exact hpx)] at ca
    rw [Clo.nats_get (by rw [HG.out]; exact hpy)] at cb'
    have hcx : Tm.pos (moreP es [a, b]) a < (cloC es [a, b]).length := by rw [HG.out]; exact hpx
    have hcy : Tm.pos (moreP es [a, b]) b < (cloC es [a, b]).length := by rw [HG.out]; exact hpy
    have hvw : TmsR w1 (moreP es [a, b]) pv := ⟨fp, hr⟩
    have hxw : TmR w1 a (.agg #[.string a.name, .slice xa a.kids.length xc]) := TmR.mk xs ⟨_, xk.below hB1⟩
    have hyw : TmR w1 b (.agg #[.string b.name, .slice ya b.kids.length yc]) := TmR.mk ys ⟨_, yk.below hB1⟩
    have P0 := st.p0
    have P1 := st.p1
    obtain ⟨r, hr0⟩ : ∃ r, r = (Clo.cl (cloC es [a, b]) (Tm.pos (moreP es [a, b]) a) == Clo.cl (cloC es [a, b]) (Tm.pos (moreP es [a, b]) b)) := ⟨_, rfl⟩
    have heb : (((Clo.cl (cloC es [a, b]) (Tm.pos (moreP es [a, b]) a) : Nat) : Int) == ((Clo.cl (cloC es [a, b]) (Tm.pos (moreP es [a, b]) b) : Nat) : Int)) = r := by
      rw [hr0, Bool.eq_iff_iff]; simp only [beq_iff_eq]; omega
    rw [← hr0] at HM
    clear hr0
    go_wp2_with fail
    have q0 := cell_regrown Y0'
    have q1 := cell_regrown Y1'
    have q2 := cell_regrown Z0'
    have q3 := cell_regrown Z1'
    have q4 := cell_regrown ca
    have q5 := cell_regrown cb'
    have q6 := cell_regrown P1
    refine wp_region_quiet_below (by kernel_rfl) (by kernel_rfl) ?_
    repeat (go_big_quiet_step (first
      | (with_reducible refine Calls.regrown_of (cloAt_any (moreP es [a, b]) a _ _ cb _ HO.out hma ((below_regrown _ _ _).cell (World.block_lt_of_cell? _ _ P0) |>.trans P0) (hvw.below (below_regrown _ _ _)) (hxw.below (below_regrown _ _ _))))
      | (with_reducible refine Calls.regrown_of (cloAt_any (moreP es [a, b]) b _ _ cb _ HO.out hmb ((below_regrown _ _ _).cell (World.block_lt_of_cell? _ _ P0) |>.trans P0) (hvw.below (below_regrown _ _ _)) (hyw.below (below_regrown _ _ _))))))
    refine wpQuiet_nil ?_
    intro w4 hw4
    obtain ⟨⟨dq, osq⟩, hw4⟩ := hw4
    have hb4 : Below w1.heap.size w1 w4 := hw4 ▸ below_regrown w1 dq osq
    clear hw4 q0 q1 q2 q3 q4 q5 q6
    have hB4 := hB1.trans (hb4.mono hB1.size)
    go_wp2_with fail
    go_ret2
    cases r
    · exact ⟨hB4, .inl ⟨HM.out, _, rfl⟩⟩
    · exact ⟨hB4, .inr ⟨HM.out, cb, pv, _, sv, fp, rfl, st.below hb4, hr.below hb4, (hf.mono hWz).below hb4, hfl, by omega⟩⟩
theorem sameIs_any (s : Sg) (es : List Eqn) (a b : Tm) (vs ua ub : List Value) (v : Value) (f f' fa fb : List Nat) (w : World) (hbig : Tm.sizes (sidesP es ++ [a, b]) ≤ 1000000000) (hbig2 : es.length ≤ 1048576) (hv : RdVs w s.cd vs f) (hx : Rd w (.sl (es.map Eqn.cd)) v f') (ha : RdVs w a.cd ua fa) (hb : RdVs w b.cd ub fb) :
    Calls Try.prog 22 #[.agg vs.toArray, v, .agg ua.toArray, .agg ub.toArray] w fun e w' => e = .returned (.bool (sameIsB s es a b)) ∧ Below w.heap.size w w' := by
  obtain ⟨a0, c0, f0, rfl, _, m0⟩ := Sg.open hv
  obtain ⟨ea, ec, rfl, hc1, hc2⟩ := rd_sl_inv hx
  obtain ⟨xa, xc, xf, rfl, _, xs, xk⟩ := Tm.open ha
  obtain ⟨ya, yc, yf, rfl, _, ys, yk⟩ := Tm.open hb
  have hB := ((below_alloc w (.cells #[.slice a0 s.syms.length c0] 25)).alloc (by simp) (.cells #[.string a.name, .slice xa a.kids.length xc] 37)).alloc (by simp; omega) (.cells #[.string b.name, .slice ya b.kids.length yc] 37)
  go_enter Try.func22, Try.ntmps22
  go_wp2_with fail
  refine (together_any s es a b _ _ _ _ _ _ _ _ _ hbig hbig2 (by exact hv.below hB) (by exact hx.below hB) (by exact ha.below hB) (by exact hb.below hB)).mono ?_
  rintro e w1 ⟨hb1, ⟨hm, p, rfl⟩ | ⟨hm, cb, pv, cv, sv, fp, rfl, _⟩⟩
  · have HM := Lib.hid hm
    clear hm
    go_wp2_with fail
    go_ret
    exact ⟨retB HM.out.symm, hB.trans (hb1.mono hB.size)⟩
  · have HM := Lib.hid hm
    clear hm
    go_wp2_with fail
    go_ret
    exact ⟨retB HM.out.symm, hB.trans (hb1.mono hB.size)⟩
end Go.Proofs.Ytblbommhodondaa
