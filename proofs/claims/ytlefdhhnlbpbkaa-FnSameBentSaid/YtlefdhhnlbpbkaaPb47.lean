/- Parts of the proof: CloY WhN. -/
import Derived.Test.YtlefdhhnlbpbkaaPb46
import Derived.Test.YtlefdhhnlbpbkaaPb10
import Derived.Test.YtlefdhhnlbpbkaaPb38
section
namespace Go.Proofs.Ytlefdhhnlbpbkaa
open Go Go.RowKit
set_option linter.unusedVariables false
set_option linter.unusedSimpArgs false
set_option maxRecDepth 100000
set_option maxHeartbeats 16000000
def TogOut (s : Sg) (es : List Eqn) (a b : Tm) (w : World) (e : Ending) (w' : World) : Prop :=
 Below w.heap.size w w' ∧ ((zB s es a b = false ∧ ∃ p, e = .returned (.tuple #[.pointer p, .bool false])) ∨
  (zB s es a b = true ∧ ∃ (cb : Nat) (pv cv sv : Value) (fp : List Nat), e = .returned (.tuple #[.pointer (some ⟨cb, 0, none⟩), .bool true]) ∧ CloAt w' cb pv (cloC es [a, b]) (cloS es [a, b]) cv sv ∧
   Rd w' (.sl ((zr es [a, b]).map Tm.cd)) pv fp ∧ Fresh w.heap.size w' fp ∧ (∀ b ∈ fp, b < cb) ∧ w.heap.size ≤ cb))
theorem zbk (s : Sg) (es : List Eqn) (a b : Tm) (vs ua ub : List Value) (v : Value) (f f' fa fb : List Nat) (w : World) (hbig : Tm.sizes (zi es ++ [a, b]) ≤ 1000000000) (hbig2 : es.length ≤ 1048576) (hv : RdVs w s.cd vs f) (hx : Rd w (.sl (es.map Eqn.cd)) v f') (ha : RdVs w a.cd ua fa) (hb : RdVs w b.cd ub fb) :
  Calls Try.prog 29 #[.agg vs.toArray, v, .agg ua.toArray, .agg ub.toArray] w (TogOut s es a b w) := by
 obtain ⟨a0, c0, f0, rfl, _, m0⟩ := Sg.open hv
 obtain ⟨ea, ec, rfl, hc1, hc2⟩ := zd hx
 obtain ⟨xa, xc, xf, rfl, _, xs, xk⟩ := Tm.open ha
 obtain ⟨ya, yc, yf, rfl, _, ys, yk⟩ := Tm.open hb
 go_enter Try.func29, Try.ntmps29
 go_wp2_with fail
 have B3 := box3 (w := w) (wr := (((w.alloc (.cells #[.slice a0 s.syms.length c0] 25)).alloc (.cells #[.string a.name, .slice xa a.kids.length xc] 29)).alloc (.cells #[.string b.name, .slice ya b.kids.length yc] 29)).alloc (.cells #[.string a.name, .slice xa a.kids.length xc, .string b.name, .slice ya b.kids.length yc] 29)) (cs := #[.slice a0 s.syms.length c0]) (ds := #[.string a.name, .slice xa a.kids.length xc]) (es := #[.string b.name, .slice ya b.kids.length yc]) (T := 25) (U := 29) (V := 29) ((Below.refl _ _).alloc (by simp) _)
 obtain ⟨X, Y, Z, _, _, hz, hB⟩ := B3
 have Y0 := Y 0
 have Y1 := Y 1
 have Z0 := Z 0
 have Z1 := Z 1
 simp only [zdY, zdW, zdX] at Y0 Y1 Z0 Z1
 have R := zq (((w.alloc (.cells #[.slice a0 s.syms.length c0] 25)).alloc (.cells #[.string a.name, .slice xa a.kids.length xc] 29)).alloc (.cells #[.string b.name, .slice ya b.kids.length yc] 29)) #[.string a.name, .slice xa a.kids.length xc, .string b.name, .slice ya b.kids.length yc] 29
 simp only [World.size_alloc] at R
 generalize (((w.alloc (.cells #[.slice a0 s.syms.length c0] 25)).alloc (.cells #[.string a.name, .slice xa a.kids.length xc] 29)).alloc (.cells #[.string b.name, .slice ya b.kids.length yc] 29)).alloc (.cells #[.string a.name, .slice xa a.kids.length xc, .string b.name, .slice ya b.kids.length yc] 29) = W at *
 obtain ⟨fm, hm2⟩ := zc3 (W := W) (a := a) (b := b) (g := w.heap.size + 1 + 1 + 1) (by exact ha.below hB) (by exact hb.below hB) (World.block_lt_of_cell? _ _ (R 0)) (fun j u hj => by rw [R j]; simpa using hj)
 clear X Y Z R
 refine (za3 s es [a, b] _ _ _ _ _ _ _ hbig hbig2 (by exact hv.below hB) (by exact hx.below hB) (by exact hm2)).mono ?_
 rintro e w1 ⟨hb1, ⟨hm, rfl⟩ | ⟨hm, cb, pv, cv, sv, fp, rfl, st, hr, hf, hfl, hcb⟩⟩
 ·have hB1 := hB.trans (hb1.mono hB.size)
  have HM : Hid (zB s es a b = false) := Lib.hid (by unfold zB; rw [hm]; rfl)
  clear hm hb1 Y0 Y1 Z0 Z1 hm2
  go_wp2_with fail
  refine wp_region_quiet_below (by kernel_rfl) (by kernel_rfl) ?_
  repeat (go_big_quiet_step (fail))
  refine wpQuiet_nil ?_
  intro w4 hw4
  obtain ⟨⟨dq, osq⟩, hw4⟩ := hw4
  have hb4 : Below w1.heap.size w1 w4 := hw4 ▸ below_regrown w1 dq osq
  clear hw4
  go_wp2_with fail
  go_ret2
  exact ⟨hB1.trans (hb4.mono hB1.size), .inl ⟨HM.out, _, rfl⟩⟩
 ·have hB1 := hB.trans (hb1.mono hB.size)
  have HM : Hid (zB s es a b = (Clo.cl (cloC es [a, b]) (Tm.pos (zr es [a, b]) a) == Clo.cl (cloC es [a, b]) (Tm.pos (zr es [a, b]) b))) := Lib.hid (by unfold zB; rw [hm]; rfl)
  have Y0' := za Y0 hb1
  have Y1' := za Y1 hb1
  have Z0' := za Z0 hb1
  have Z1' := za Z1 hb1
  have hWz := hB.size
  clear hm hb1 hm2 Y0 Y1 Z0 Z1
  have hma : a ∈ zr es [a, b] := zY (List.mem_append_right _ (by simp))
  have hmb : b ∈ zr es [a, b] := zY (List.mem_append_right _ (by simp))
  have HO := Lib.hid (zay es [a, b])
  have HG := Lib.hid (zaX es [a, b]).1
  have hpx := (Tm.pos_yes hma).1
  have hpy := (Tm.pos_yes hmb).1
  obtain ⟨g, cp, rfl, hgB, hgw, hcp⟩ := st.crow.form (by rw [zl, HG.out]; omega)
  rw [zl] at st hcp
  have ca := (st.crow.cell (k := Tm.pos (zr es [a, b]) a) (by rw [zl, HG.out]; exact hpx)).1
  have cb' := (st.crow.cell (k := Tm.pos (zr es [a, b]) b) (by rw [zl, HG.out]; exact hpy)).1
  rw [Clo.nats_get (by rw [HG.out]; exact hpx)] at ca
  rw [Clo.nats_get (by rw [HG.out]; exact hpy)] at cb'
  have hcx : Tm.pos (zr es [a, b]) a < (cloC es [a, b]).length := by rw [HG.out]; exact hpx
  have hcy : Tm.pos (zr es [a, b]) b < (cloC es [a, b]).length := by rw [HG.out]; exact hpy
  have hvw : TmsR w1 (zr es [a, b]) pv := ⟨fp, hr⟩
  have hxw : TmR w1 a (.agg #[.string a.name, .slice xa a.kids.length xc]) := TmR.mk xs ⟨_, xk.below hB1⟩
  have hyw : TmR w1 b (.agg #[.string b.name, .slice ya b.kids.length yc]) := TmR.mk ys ⟨_, yk.below hB1⟩
  have P0 := st.p0
  have P1 := st.p1
  obtain ⟨r, hr0⟩ : ∃ r, r = (Clo.cl (cloC es [a, b]) (Tm.pos (zr es [a, b]) a) == Clo.cl (cloC es [a, b]) (Tm.pos (zr es [a, b]) b)) := ⟨_, rfl⟩
  have heb : (((Clo.cl (cloC es [a, b]) (Tm.pos (zr es [a, b]) a) : Nat) : Int) == ((Clo.cl (cloC es [a, b]) (Tm.pos (zr es [a, b]) b) : Nat) : Int)) = r := by
   rw [hr0, Bool.eq_iff_iff]; simp only [beq_iff_eq]; omega
  rw [← hr0] at HM
  clear hr0
  go_wp2_with fail
  have q0 := cell_regrown Y0'
  have q1 := cell_regrown Y1'
  have q2 := cell_regrown Z0'
  have q3 := cell_regrown Z1'
  have q4 := cell_regrown ca
  have q5 := cell_regrown cb'
  have q6 := cell_regrown P1
  refine wp_region_quiet_below (by kernel_rfl) (by kernel_rfl) ?_
  repeat (go_big_quiet_step (first
   | (with_reducible refine Calls.regrown_of (zar (zr es [a, b]) a _ _ cb _ HO.out hma ((below_regrown _ _ _).cell (World.block_lt_of_cell? _ _ P0) |>.trans P0) (hvw.below (below_regrown _ _ _)) (hxw.below (below_regrown _ _ _))))
   | (with_reducible refine Calls.regrown_of (zar (zr es [a, b]) b _ _ cb _ HO.out hmb ((below_regrown _ _ _).cell (World.block_lt_of_cell? _ _ P0) |>.trans P0) (hvw.below (below_regrown _ _ _)) (hyw.below (below_regrown _ _ _))))))
  refine wpQuiet_nil ?_
  intro w4 hw4
  obtain ⟨⟨dq, osq⟩, hw4⟩ := hw4
  have hb4 : Below w1.heap.size w1 w4 := hw4 ▸ below_regrown w1 dq osq
  clear hw4 q0 q1 q2 q3 q4 q5 q6
  have hB4 := hB1.trans (hb4.mono hB1.size)
  go_wp2_with fail
  go_ret2
  cases r
  ·exact ⟨hB4, .inl ⟨HM.out, _, rfl⟩⟩
  ·exact ⟨hB4, .inr ⟨HM.out, cb, pv, _, sv, fp, rfl, st.below hb4, hr.below hb4, (hf.mono hWz).below hb4, hfl, by omega⟩⟩
theorem zdR (s : Sg) (es : List Eqn) (a b : Tm) (vs ua ub : List Value) (v : Value) (f f' fa fb : List Nat) (w : World) (hbig : Tm.sizes (zi es ++ [a, b]) ≤ 1000000000) (hbig2 : es.length ≤ 1048576) (hv : RdVs w s.cd vs f) (hx : Rd w (.sl (es.map Eqn.cd)) v f') (ha : RdVs w a.cd ua fa) (hb : RdVs w b.cd ub fb) :
  Calls Try.prog 11 #[.agg vs.toArray, v, .agg ua.toArray, .agg ub.toArray] w fun e w' => e = .returned (.bool (zB s es a b)) ∧ Below w.heap.size w w' := by
 obtain ⟨a0, c0, f0, rfl, _, m0⟩ := Sg.open hv
 obtain ⟨ea, ec, rfl, hc1, hc2⟩ := zd hx
 obtain ⟨xa, xc, xf, rfl, _, xs, xk⟩ := Tm.open ha
 obtain ⟨ya, yc, yf, rfl, _, ys, yk⟩ := Tm.open hb
 have hB := ((zb w (.cells #[.slice a0 s.syms.length c0] 25)).alloc (by simp) (.cells #[.string a.name, .slice xa a.kids.length xc] 29)).alloc (by simp; omega) (.cells #[.string b.name, .slice ya b.kids.length yc] 29)
 go_enter Try.func11, Try.ntmps11
 go_wp2_with fail
 refine (zbk s es a b _ _ _ _ _ _ _ _ _ hbig hbig2 (by exact hv.below hB) (by exact hx.below hB) (by exact ha.below hB) (by exact hb.below hB)).mono ?_
 rintro e w1 ⟨hb1, ⟨hm, p, rfl⟩ | ⟨hm, cb, pv, cv, sv, fp, rfl, _⟩⟩
 ·have HM := Lib.hid hm
  clear hm
  go_wp2_with fail
  go_ret
  exact ⟨retB HM.out.symm, hB.trans (hb1.mono hB.size)⟩
 ·have HM := Lib.hid hm
  clear hm
  go_wp2_with fail
  go_ret
  exact ⟨retB HM.out.symm, hB.trans (hb1.mono hB.size)⟩
theorem zdc (s : Sg) (es : List Eqn) (a b : Tm) (hno : zB s es a b = false) (vs ua ub : List Value) (v : Value) (f f' fa fb : List Nat) (w : World) (hbig : Tm.sizes (zi es ++ [a, b]) ≤ 1000000000) (hbig2 : es.length ≤ 1048576) (hv : RdVs w s.cd vs f) (hx : Rd w (.sl (es.map Eqn.cd)) v f') (ha : RdVs w a.cd ua fa) (hb : RdVs w b.cd ub fb) :
  Calls Try.prog 9 #[.agg vs.toArray, v, .agg ua.toArray, .agg ub.toArray] w fun e w' => e = .returned (.tuple #[.agg #[.int .i64 0, .int .i64 0, .string ⟨#[]⟩, .slice none 0 0, .slice none 0 0], .bool false]) ∧ Below w.heap.size w w' := by
 obtain ⟨a0, c0, f0, rfl, _, m0⟩ := Sg.open hv
 obtain ⟨ea, ec, rfl, hc1, hc2⟩ := zd hx
 obtain ⟨xa, xc, xf, rfl, _, xs, xk⟩ := Tm.open ha
 obtain ⟨ya, yc, yf, rfl, _, ys, yk⟩ := Tm.open hb
 have hS := (((Box.new w [.slice a0 s.syms.length c0] 25).alloc (.cells #[.string a.name, .slice xa a.kids.length xc] 29)).alloc (.cells #[.string b.name, .slice ya b.kids.length yc] 29)).alloc (.cells #[.int .i64 0, .int .i64 0, .string ⟨#[]⟩, .slice none 0 0, .slice none 0 0] 32)
 have hA := ((Box.new (w.alloc (.cells #[.slice a0 s.syms.length c0] 25)) [.string a.name, .slice xa a.kids.length xc] 29).alloc (.cells #[.string b.name, .slice ya b.kids.length yc] 29)).alloc (.cells #[.int .i64 0, .int .i64 0, .string ⟨#[]⟩, .slice none 0 0, .slice none 0 0] 32)
 have hB := (Box.new ((w.alloc (.cells #[.slice a0 s.syms.length c0] 25)).alloc (.cells #[.string a.name, .slice xa a.kids.length xc] 29)) [.string b.name, .slice ya b.kids.length yc] 29).alloc (.cells #[.int .i64 0, .int .i64 0, .string ⟨#[]⟩, .slice none 0 0, .slice none 0 0] 32)
 have hR := Box.new (((w.alloc (.cells #[.slice a0 s.syms.length c0] 25)).alloc (.cells #[.string a.name, .slice xa a.kids.length xc] 29)).alloc (.cells #[.string b.name, .slice ya b.kids.length yc] 29)) [.int .i64 0, .int .i64 0, .string ⟨#[]⟩, .slice none 0 0, .slice none 0 0] 32
 simp only [World.size_alloc] at hA hB hR
 have hbw : Below w.heap.size w ((((w.alloc (.cells #[.slice a0 s.syms.length c0] 25)).alloc (.cells #[.string a.name, .slice xa a.kids.length xc] 29)).alloc (.cells #[.string b.name, .slice ya b.kids.length yc] 29)).alloc (.cells #[.int .i64 0, .int .i64 0, .string ⟨#[]⟩, .slice none 0 0, .slice none 0 0] 32)) := (((zb _ _).alloc (by simp) _).alloc (by simp; omega) _).alloc (by simp; omega) _
 go_enter Try.func9, Try.ntmps9
 go_upto_region 1 with fail
 generalize (((w.alloc (.cells #[.slice a0 s.syms.length c0] 25)).alloc (.cells #[.string a.name, .slice xa a.kids.length xc] 29)).alloc (.cells #[.string b.name, .slice ya b.kids.length yc] 29)).alloc (.cells #[.int .i64 0, .int .i64 0, .string ⟨#[]⟩, .slice none 0 0, .slice none 0 0] 32) = w0 at *
 have s0 := hS.2.1 0 _ rfl; have x0 := hA.2.1 0 _ rfl; have x1 := hA.2.1 1 _ rfl; have y0 := hB.2.1 0 _ rfl; have y1 := hB.2.1 1 _ rfl
 go_wp2_with fail
 refine (zbk s es a b _ _ _ _ _ _ _ _ _ hbig hbig2 (by exact hv.below hbw) (by exact hx.below hbw) (by exact ha.below hbw) (by exact hb.below hbw)).mono ?_
 rintro e w1 ⟨hb1, h | h⟩
 ·obtain ⟨_, p, rfl⟩ := h
  replace hR := hR.below hb1
  replace hbw := hbw.trans (hb1.mono hbw.size)
  clear hb1 s0 x0 x1 y0 y1 hS hA hB
  have r0 := hR.2.1 0 _ rfl; have r1 := hR.2.1 1 _ rfl; have r2 := hR.2.1 2 _ rfl; have r3 := hR.2.1 3 _ rfl; have r4 := hR.2.1 4 _ rfl
  have z0 := hR.2.2 0; have z1 := hR.2.2 1; have z2 := hR.2.2 2; have z3 := hR.2.2 3; have z4 := hR.2.2 4
  have gR := hR.puts [.int .i64 0, .int .i64 0, .string ⟨#[]⟩, .slice none 0 0, .slice none 0 0] rfl
  have hKK := (Same2.refl (w.heap.size + 1 + 1 + 1) (w.heap.size + 1 + 1 + 1) w1).sets (b := w.heap.size + 1 + 1 + 1) (.inl rfl) (ze 0 [.int .i64 0, .int .i64 0, .string ⟨#[]⟩, .slice none 0 0, .slice none 0 0])
  have hBE := zs (b := w.heap.size + 1 + 1 + 1) (by omega) (ze 0 [.int .i64 0, .int .i64 0, .string ⟨#[]⟩, .slice none 0 0, .slice none 0 0]) hbw
  simp only [zy, ze] at gR hKK hBE
  clear hR
  go_wp2_with fail
  have e0 := gR.2.1 0 _ rfl; have e1 := gR.2.1 1 _ rfl; have e2 := gR.2.1 2 _ rfl; have e3 := gR.2.1 3 _ rfl; have e4 := gR.2.1 4 _ rfl
  refine bodyPost_ret (v := .tuple #[.agg #[.int .i64 0, .int .i64 0, .string ⟨#[]⟩, .slice none 0 0, .slice none 0 0], .bool false]) (by simp [results, Try.results9, go_sem, e0, e1, e2, e3, e4]) rfl ?_
  exact ⟨rfl, hBE⟩
 ·rw [hno] at h; cases h.1
end Go.Proofs.Ytlefdhhnlbpbkaa
end
