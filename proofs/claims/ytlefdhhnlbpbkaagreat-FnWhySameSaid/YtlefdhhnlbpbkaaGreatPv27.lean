/- Parts of the proof: CloW RdrE SmE. -/
import Derived.Test.YtlefdhhnlbpbkaaGreatPv17
import Derived.Test.YtlefdhhnlbpbkaaGreatPv26
section
namespace Go.Proofs.YtlefdhhnlbpbkaaGreat
open Go Go.RowKit
set_option linter.unusedVariables false
set_option linter.unusedSimpArgs false
set_option maxRecDepth 100000
set_option maxHeartbeats 16000000
theorem tms2_rd {W : World} {a b : Tm} {u0 u1 v0 v1 : Value} {f1 f2 : List Nat} {g : Nat} (h1 : RdVs W a.cd [u0, u1] f1) (h2 : RdVs W b.cd [v0, v1] f2) (hg : g < W.heap.size) (hc : ∀ j u, [u0, u1, v0, v1][j]? = some u → W.cell? ⟨g, j, none⟩ = some u) : ∃ fp, Rd W (.sl ([a, b].map Tm.cd)) (.slice (some ⟨g, 0, none⟩) 2 2) fp := by
 refine ⟨g :: (f1 ++ f2), ?_⟩
 simp only [Rd]
 refine ⟨_, 2, rfl, by simp, by simp [maxLen], .inr ⟨by simp, g, 0, f1 ++ f2, rfl, hg, rfl, ?_⟩⟩
 refine RdRows.mk (k := 2) (vs := [u0, u1, v0, v1]) (fun j u hj => by simpa using hc j u hj) ?_
 have := h1.app h2
 simpa using this
theorem zcx {w : World} {α : Type} {cd : α → List CD} (a : Option Addr) (c : Nat) (hc : c ≤ maxLen) : Rd w (.sl (([] : List α).map cd)) (.slice a 0 c) [] := by
 simp only [List.map_nil, Rd]; exact ⟨a, c, rfl, by simp, hc, by simp⟩
/-- SameClass, SameSteps, SameIs. -/
def zcd (s : Sg) (es : List Eqn) (ms : List Tm) : List Int := if zar s es ms = true then nats (cloC es ms) else []
def zad (s : Sg) (es : List Eqn) (a b : Tm) : Bool := zar s es [a, b] && (Clo.cl (cloC es [a, b]) (Tm.pos (zx es [a, b]) a) == Clo.cl (cloC es [a, b]) (Tm.pos (zx es [a, b]) b))
theorem zcR {s : Sg} {es : List Eqn} {ms : List Tm} (h : zar s es ms = false) : zcd s es ms = [] := by unfold zcd; rw [h]; rfl
theorem zce {s : Sg} {es : List Eqn} {ms : List Tm} (h : zar s es ms = true) : zcd s es ms = nats (cloC es ms) := by unfold zcd; rw [h]; rfl
theorem zbV (s : Sg) (es : List Eqn) (ms : List Tm) (vs : List Value) (v v2 : Value) (f f' f2 : List Nat) (w : World) (hbig : Tm.sizes (zj es ++ ms) ≤ 1000000000) (hv : RdVs w s.cd vs f) (hx : Rd w (.sl (es.map Eqn.cd)) v f') (h2 : Rd w (.sl (ms.map Tm.cd)) v2 f2) :
  Calls Tryz.prog 46 #[.agg vs.toArray, v, v2] w fun e w' => ∃ rv fp, e = .returned rv ∧ Rd w' (.sl ((zcd s es ms).map zk)) rv fp ∧ Fresh w.heap.size w' fp ∧ Below w.heap.size w w' := by
 obtain ⟨a0, c0, f0, rfl, _, m0⟩ := Sg.open hv
 obtain ⟨a, cap, rfl, hc1, hc2⟩ := zd hx
 obtain ⟨a2, cap2, rfl, hc3, hc4⟩ := zd h2
 have hb0 := zb w (.cells #[.slice a0 s.syms.length c0] 25)
 go_enter Tryz.func46, Tryz.ntmps46
 go_wp2_with fail
 refine (zb8 s es ms _ _ _ _ _ _ _ hbig (by exact hv.below hb0) (by exact hx.below hb0) (by exact h2.below hb0)).mono ?_
 rintro e w1 ⟨rfl, hb1⟩
 have hB1 := hb0.trans (hb1.mono hb0.size)
 clear hb1 hb0
 cases hm : zar s es ms
 ·have HM := Lib.hid (zcR hm)
  clear hm
  go_wp2_with fail
  go_ret
  exact ⟨_, [], rfl, by rw [HM.out]; exact zcx _ _ (by simp), Fresh.nil _ _, hB1.alloc hB1.size _⟩
 ·have HM := Lib.hid (zce hm)
  obtain ⟨hl12, hl24⟩ := zaC hm
  clear hm
  go_wp2_with fail
  refine (zO es ms _ _ _ _ _ hbig (hx.below hB1) (h2.below hB1)).mono ?_
  rintro e w2 ⟨⟨rv, fp, rfl, hr, _⟩, hb2⟩
  have hB2 := hB1.trans (hb2.mono hB1.size)
  change Rd w2 (.sl ((zx es ms).map Tm.cd)) rv fp at hr
  clear hb2
  go_wp2_with fail
  refine (zby (zx es ms) es _ _ _ _ (zbA es ms) (by omega) (by omega) (zat es ms) ⟨fp, hr⟩ (hx.below hB2)).mono ?_
  rintro e w3 ⟨sv, cv, rfl, st⟩
  have hB3 := hB2.trans (st.bel.mono hB2.size)
  obtain ⟨ca, cn, cc, rfl⟩ := st.crow.form'
  obtain ⟨sa, sn, sc, rfl⟩ := st.srow.form'
  go_wp2_with fail
  go_ret
  obtain ⟨fp', h3, h4, _⟩ := Own.fresh st.crow (Fresh.nil _ _)
  exact ⟨_, fp', rfl, by rw [HM.out]; exact h3, h4.mono hB2.size, hB3⟩
theorem zdm (s : Sg) (es : List Eqn) (a b : Tm) (vs ua ub : List Value) (v : Value) (f f' fa fb : List Nat) (w : World) (hbig : Tm.sizes (zj es ++ [a, b]) ≤ 1000000000) (hv : RdVs w s.cd vs f) (hx : Rd w (.sl (es.map Eqn.cd)) v f') (ha : RdVs w a.cd ua fa) (hb : RdVs w b.cd ub fb) :
  Calls Tryz.prog 47 #[.agg vs.toArray, v, .agg ua.toArray, .agg ub.toArray] w fun e w' => e = .returned (.bool (zad s es a b)) ∧ Below w.heap.size w w' := by
 obtain ⟨a0, c0, f0, rfl, _, m0⟩ := Sg.open hv
 obtain ⟨ea, ec, rfl, hc1, hc2⟩ := zd hx
 obtain ⟨xa, xc, xf, rfl, _, xs, xk⟩ := Tm.open ha
 obtain ⟨ya, yc, yf, rfl, _, ys, yk⟩ := Tm.open hb
 go_enter Tryz.func47, Tryz.ntmps47
 go_wp2_with fail
 have B3 := box3 (w := w) (wr := (((w.alloc (.cells #[.slice a0 s.syms.length c0] 25)).alloc (.cells #[.string a.name, .slice xa a.kids.length xc] 29)).alloc (.cells #[.string b.name, .slice ya b.kids.length yc] 29)).alloc (.cells #[.string a.name, .slice xa a.kids.length xc, .string b.name, .slice ya b.kids.length yc] 29)) (cs := #[.slice a0 s.syms.length c0]) (ds := #[.string a.name, .slice xa a.kids.length xc]) (es := #[.string b.name, .slice ya b.kids.length yc]) (T := 25) (U := 29) (V := 29) ((Below.refl _ _).alloc (by simp) _)
 obtain ⟨X, Y, Z, _, _, hz, hB⟩ := B3
 have X0 := X 0
 have Y0 := Y 0
 have Y1 := Y 1
 have Z0 := Z 0
 have Z1 := Z 1
 simp only [zeo, zem, zen] at X0 Y0 Y1 Z0 Z1
 have R := zv (((w.alloc (.cells #[.slice a0 s.syms.length c0] 25)).alloc (.cells #[.string a.name, .slice xa a.kids.length xc] 29)).alloc (.cells #[.string b.name, .slice ya b.kids.length yc] 29)) #[.string a.name, .slice xa a.kids.length xc, .string b.name, .slice ya b.kids.length yc] 29
 simp only [World.size_alloc] at R
 generalize (((w.alloc (.cells #[.slice a0 s.syms.length c0] 25)).alloc (.cells #[.string a.name, .slice xa a.kids.length xc] 29)).alloc (.cells #[.string b.name, .slice ya b.kids.length yc] 29)).alloc (.cells #[.string a.name, .slice xa a.kids.length xc, .string b.name, .slice ya b.kids.length yc] 29) = W at *
 obtain ⟨fm, hm2⟩ := tms2_rd (W := W) (a := a) (b := b) (g := w.heap.size + 1 + 1 + 1) (by exact ha.below hB) (by exact hb.below hB) (World.block_lt_of_cell? _ _ (R 0)) (fun j u hj => by rw [R j]; simpa using hj)
 clear X Y Z R
 refine (zb8 s es [a, b] _ _ _ _ _ _ _ hbig (by exact hv.below hB) (by exact hx.below hB) (by exact hm2)).mono ?_
 rintro e w1 ⟨rfl, hb1⟩
 have hB1 := hB.trans (hb1.mono hB.size)
 have hms := hm2.below hb1
 have Y0' := za Y0 hb1
 have Y1' := za Y1 hb1
 have Z0' := za Z0 hb1
 have Z1' := za Z1 hb1
 clear hb1 Y0 Y1 Z0 Z1 X0 hz hm2
 cases hm : zar s es [a, b]
 ·have HM : Hid (zad s es a b = false) := Lib.hid (by unfold zad; rw [hm]; rfl)
  clear hm
  go_wp2_with fail
  go_ret
  exact ⟨retB HM.out.symm, hB1⟩
 ·have HM : Hid (zad s es a b = (Clo.cl (cloC es [a, b]) (Tm.pos (zx es [a, b]) a) == Clo.cl (cloC es [a, b]) (Tm.pos (zx es [a, b]) b))) := Lib.hid (by unfold zad; rw [hm]; rfl)
  obtain ⟨hl12, hl24⟩ := zaC hm
  clear hm
  go_wp2_with fail
  refine (zO es [a, b] _ _ _ _ _ hbig (hx.below hB1) hms).mono ?_
  rintro e w2 ⟨⟨rv, fp, rfl, hr, hf⟩, hb2⟩
  have hB2 := hB1.trans (hb2.mono hB1.size)
  change Rd w2 (.sl ((zx es [a, b]).map Tm.cd)) rv fp at hr
  have Y0 := za Y0' hb2
  have Y1 := za Y1' hb2
  have Z0 := za Z0' hb2
  have Z1 := za Z1' hb2
  clear hb2 Y0' Y1' Z0' Z1' hms
  obtain ⟨ra, rc, rfl, _, _⟩ := zd hr
  have hma : a ∈ zx es [a, b] := zas (List.mem_append_right _ (by simp))
  have hmb : b ∈ zx es [a, b] := zas (List.mem_append_right _ (by simp))
  have HO := Lib.hid (zbA es [a, b])
  have HG := Lib.hid (zbB es [a, b]).1
  have HE := Lib.hid (zat es [a, b])
  have HCC : Hid (cloC es [a, b] = (Clo.close (zx es [a, b]) es).1) := Lib.hid rfl
  generalize cloC es [a, b] = cc at HM HG HCC
  generalize zx es [a, b] = ps at *
  go_wp2_with fail
  refine (zby ps es _ _ _ _ HO.out (by omega) (by omega) HE.out ⟨fp, hr⟩ (hx.below hB2)).mono ?_
  rintro e w3 ⟨sv, cv, rfl, st⟩
  rw [← HCC.out] at st
  have hB3 := hB2.trans (st.bel.mono hB2.size)
  have Y0' := za Y0 st.bel
  have Y1' := za Y1 st.bel
  have Z0' := za Z0 st.bel
  have Z1' := za Z1 st.bel
  have hpx := (Tm.pos_yes hma).1
  have hpy := (Tm.pos_yes hmb).1
  obtain ⟨g, cp, rfl, hgB, hgw, hcp⟩ := st.crow.form (by rw [zt, HG.out]; omega)
  rw [zt] at st hcp ⊢
  have ca := (st.crow.cell (k := Tm.pos ps a) (by rw [zt, HG.out]; exact hpx)).1
  have cb := (st.crow.cell (k := Tm.pos ps b) (by rw [zt, HG.out]; exact hpy)).1
  rw [Clo.nats_get (by rw [HG.out]; exact hpx)] at ca
  rw [Clo.nats_get (by rw [HG.out]; exact hpy)] at cb
  have hcx : Tm.pos ps a < cc.length := by rw [HG.out]; exact hpx
  have hcy : Tm.pos ps b < cc.length := by rw [HG.out]; exact hpy
  obtain ⟨sa, sn, sc, rfl⟩ := st.srow.form'
  have hvw : TmsR w3 ps (.slice ra ps.length rc) := ⟨fp, hr.below st.bel⟩
  have hxw : TmR w3 a (.agg #[.string a.name, .slice xa a.kids.length xc]) := TmR.mk xs ⟨_, xk.below hB3⟩
  have hyw : TmR w3 b (.agg #[.string b.name, .slice ya b.kids.length yc]) := TmR.mk ys ⟨_, yk.below hB3⟩
  obtain ⟨r, hr0⟩ : ∃ r, r = (Clo.cl cc (Tm.pos ps a) == Clo.cl cc (Tm.pos ps b)) := ⟨_, rfl⟩
  have heb : (((Clo.cl cc (Tm.pos ps a) : Nat) : Int) == ((Clo.cl cc (Tm.pos ps b) : Nat) : Int)) = r := by
   rw [hr0, Bool.eq_iff_iff]; simp only [beq_iff_eq]; omega
  rw [← hr0] at HM
  clear hr0 st Y0 Y1 Z0 Z1 hr
  go_wp2_with fail
  have q0 := cell_regrown Y0'
  have q1 := cell_regrown Y1'
  have q2 := cell_regrown Z0'
  have q3 := cell_regrown Z1'
  have q4 := cell_regrown ca
  have q5 := cell_regrown cb
  refine wp_region_quiet_below (by kernel_rfl) (by kernel_rfl) ?_
  repeat (quiet_step (first
   | (with_reducible refine Calls.regrown_of (zC ps a _ _ _ HO.out hma (hvw.below (below_regrown _ _ _)) (hxw.below (below_regrown _ _ _))))
   | (with_reducible refine Calls.regrown_of (zC ps b _ _ _ HO.out hmb (hvw.below (below_regrown _ _ _)) (hyw.below (below_regrown _ _ _))))))
  refine wpQuiet_nil ?_
  intro w4 hw4
  obtain ⟨⟨dq, osq⟩, hw4⟩ := hw4
  have hb4 : Below w3.heap.size w3 w4 := hw4 ▸ below_regrown w3 dq osq
  clear hw4 q0 q1 q2 q3 q4 q5
  go_wp2_with fail
  go_ret
  exact ⟨retB HM.out.symm, hB3.trans (hb4.mono hB3.size)⟩
theorem box3_new (u : World) (cs ds es : List Value) (T U V : TypeId) :
  (∀ j x, cs[j]? = some x → (((u.alloc (.cells cs.toArray T)).alloc (.cells ds.toArray U)).alloc (.cells es.toArray V)).cell? ⟨u.heap.size, j, none⟩ = some x) ∧
  (∀ j x, ds[j]? = some x → (((u.alloc (.cells cs.toArray T)).alloc (.cells ds.toArray U)).alloc (.cells es.toArray V)).cell? ⟨u.heap.size + 1, j, none⟩ = some x) ∧
  (∀ j x, es[j]? = some x → (((u.alloc (.cells cs.toArray T)).alloc (.cells ds.toArray U)).alloc (.cells es.toArray V)).cell? ⟨u.heap.size + 1 + 1, j, none⟩ = some x) ∧
  Below u.heap.size u (((u.alloc (.cells cs.toArray T)).alloc (.cells ds.toArray U)).alloc (.cells es.toArray V)) ∧
  (((u.alloc (.cells cs.toArray T)).alloc (.cells ds.toArray U)).alloc (.cells es.toArray V)).heap.size = u.heap.size + 1 + 1 + 1 := by
 refine ⟨fun j x hx => zz (zz (zg u cs T j x hx)), fun j x hx => ?_, fun j x hx => ?_, (((Below.refl _ _).alloc (Nat.le_refl _) _).alloc (by simp) _).alloc (by simp; omega) _, by simp⟩
 ·have h := zg (u.alloc (.cells cs.toArray T)) ds U j x hx
  rw [World.size_alloc] at h; exact zz h
 ·have h := zg ((u.alloc (.cells cs.toArray T)).alloc (.cells ds.toArray U)) es V j x hx
  rw [World.size_alloc, World.size_alloc] at h; exact h
/-- Three result cells, fresh. -/
structure Res3 (w W : World) : Prop where
 r0 : W.cell? ⟨w.heap.size, 0, none⟩ = some (.slice none 0 0)
 r1 : W.cell? ⟨w.heap.size + 1, 0, none⟩ = some (.string ⟨#[]⟩)
 r2 : W.cell? ⟨w.heap.size + 1, 1, none⟩ = some (.slice none 0 0)
 r3 : W.cell? ⟨w.heap.size + 1 + 1, 0, none⟩ = some (.string ⟨#[]⟩)
 r4 : W.cell? ⟨w.heap.size + 1 + 1, 1, none⟩ = some (.slice none 0 0)
 f0 : W.frozen? ⟨w.heap.size, 0, none⟩ = false
 f1 : W.frozen? ⟨w.heap.size + 1, 0, none⟩ = false
 f2 : W.frozen? ⟨w.heap.size + 1, 1, none⟩ = false
 f3 : W.frozen? ⟨w.heap.size + 1 + 1, 0, none⟩ = false
 f4 : W.frozen? ⟨w.heap.size + 1 + 1, 1, none⟩ = false
 size : w.heap.size + 1 + 1 + 1 ≤ W.heap.size
theorem Res3.below {w W W' : World} (h : Res3 w W) (hb : Below W.heap.size W W') : Res3 w W' := by
 have hz := h.size
 have hs := hb.size
 exact ⟨za h.r0 hb, za h.r1 hb, za h.r2 hb, za h.r3 hb, za h.r4 hb, (zc (hb.block _ (by omega))).trans h.f0, (zc (hb.block _ (by omega))).trans h.f1, (zc (hb.block _ (by omega))).trans h.f2, (zc (hb.block _ (by omega))).trans h.f3, (zc (hb.block _ (by omega))).trans h.f4, by omega⟩
theorem res3_new (w : World) : Res3 w (((w.alloc (.cells #[.slice none 0 0] 25)).alloc (.cells #[.string ⟨#[]⟩, .slice none 0 0] 29)).alloc (.cells #[.string ⟨#[]⟩, .slice none 0 0] 29)) := by
 have r1 : (((w.alloc (.cells #[.slice none 0 0] 25)).alloc (.cells #[.string ⟨#[]⟩, .slice none 0 0] 29)).alloc (.cells #[.string ⟨#[]⟩, .slice none 0 0] 29)).cell? ⟨w.heap.size + 1, 0, none⟩ = some (.string ⟨#[]⟩) := by
  have h := zg (w.alloc (.cells #[.slice none 0 0] 25)) [.string ⟨#[]⟩, .slice none 0 0] 29 0 _ rfl
  rw [World.size_alloc] at h; exact zz h
 have r2 : (((w.alloc (.cells #[.slice none 0 0] 25)).alloc (.cells #[.string ⟨#[]⟩, .slice none 0 0] 29)).alloc (.cells #[.string ⟨#[]⟩, .slice none 0 0] 29)).cell? ⟨w.heap.size + 1, 1, none⟩ = some (.slice none 0 0) := by
  have h := zg (w.alloc (.cells #[.slice none 0 0] 25)) [.string ⟨#[]⟩, .slice none 0 0] 29 1 _ rfl
  rw [World.size_alloc] at h; exact zz h
 have r3 : (((w.alloc (.cells #[.slice none 0 0] 25)).alloc (.cells #[.string ⟨#[]⟩, .slice none 0 0] 29)).alloc (.cells #[.string ⟨#[]⟩, .slice none 0 0] 29)).cell? ⟨w.heap.size + 1 + 1, 0, none⟩ = some (.string ⟨#[]⟩) := by
  have h := zg ((w.alloc (.cells #[.slice none 0 0] 25)).alloc (.cells #[.string ⟨#[]⟩, .slice none 0 0] 29)) [.string ⟨#[]⟩, .slice none 0 0] 29 0 _ rfl
  rw [World.size_alloc, World.size_alloc] at h; exact h
 have r4 : (((w.alloc (.cells #[.slice none 0 0] 25)).alloc (.cells #[.string ⟨#[]⟩, .slice none 0 0] 29)).alloc (.cells #[.string ⟨#[]⟩, .slice none 0 0] 29)).cell? ⟨w.heap.size + 1 + 1, 1, none⟩ = some (.slice none 0 0) := by
  have h := zg ((w.alloc (.cells #[.slice none 0 0] 25)).alloc (.cells #[.string ⟨#[]⟩, .slice none 0 0] 29)) [.string ⟨#[]⟩, .slice none 0 0] 29 1 _ rfl
  rw [World.size_alloc, World.size_alloc] at h; exact h
 have q0 : ∀ j, (((w.alloc (.cells #[.slice none 0 0] 25)).alloc (.cells #[.string ⟨#[]⟩, .slice none 0 0] 29)).alloc (.cells #[.string ⟨#[]⟩, .slice none 0 0] 29)).frozen? ⟨w.heap.size, j, none⟩ = false := fun j => (zc (heap_alloc_old _ _ (by simp; omega))).trans ((zc (heap_alloc_old _ _ (by simp))).trans (zJ w _ _ j))
 have q1 : ∀ j, (((w.alloc (.cells #[.slice none 0 0] 25)).alloc (.cells #[.string ⟨#[]⟩, .slice none 0 0] 29)).alloc (.cells #[.string ⟨#[]⟩, .slice none 0 0] 29)).frozen? ⟨w.heap.size + 1, j, none⟩ = false := fun j => by
  have h := zJ (w.alloc (.cells #[.slice none 0 0] 25)) #[.string ⟨#[]⟩, .slice none 0 0] 29 j
  rw [World.size_alloc] at h; exact (zc (heap_alloc_old _ _ (by simp))).trans h
 have q2 : ∀ j, (((w.alloc (.cells #[.slice none 0 0] 25)).alloc (.cells #[.string ⟨#[]⟩, .slice none 0 0] 29)).alloc (.cells #[.string ⟨#[]⟩, .slice none 0 0] 29)).frozen? ⟨w.heap.size + 1 + 1, j, none⟩ = false := fun j => by
  have h := zJ ((w.alloc (.cells #[.slice none 0 0] 25)).alloc (.cells #[.string ⟨#[]⟩, .slice none 0 0] 29)) #[.string ⟨#[]⟩, .slice none 0 0] 29 j
  rw [World.size_alloc, World.size_alloc] at h; exact h
 exact ⟨zz (zz (zg w [.slice none 0 0] _ 0 _ rfl)), r1, r2, r3, r4, q0 0, q1 0, q1 1, q2 0, q2 1, by simp⟩
theorem zeg (w : World) : Below w.heap.size w (((w.alloc (.cells #[.slice none 0 0] 25)).alloc (.cells #[.string ⟨#[]⟩, .slice none 0 0] 29)).alloc (.cells #[.string ⟨#[]⟩, .slice none 0 0] 29)) := (((Below.refl _ _).alloc (Nat.le_refl _) _).alloc (by simp) _).alloc (by simp; omega) _
theorem zcj {w w6 : World} {v0 v1 v2 v3 v4 : Value} (hB6 : Below w.heap.size w w6) : Below w.heap.size w (((((w6.setCell ⟨w.heap.size, 0, none⟩ v0).setCell ⟨w.heap.size + 1, 0, none⟩ v1).setCell ⟨w.heap.size + 1, 1, none⟩ v2).setCell ⟨w.heap.size + 1 + 1, 0, none⟩ v3).setCell ⟨w.heap.size + 1 + 1, 1, none⟩ v4) := by
 refine Below.setCell (Below.setCell (Below.setCell (Below.setCell (Below.setCell hB6 ?_ _) ?_ _) ?_ _) ?_ _) ?_ _ <;> simp <;> omega
theorem zdO {W : World} {a b : Tm} {u0 u1 v0 v1 : Value} {f1 f2 : List Nat} {g : Nat} (h1 : RdVs W a.cd [u0, u1] f1) (h2 : RdVs W b.cd [v0, v1] f2) (hg : g < W.heap.size) (hc : ∀ j u, [u0, u1, v0, v1][j]? = some u → W.cell? ⟨g, j, none⟩ = some u) : Rd W (.sl ([a, b].map Tm.cd)) (.slice (some ⟨g, 0, none⟩) 2 2) (g :: (f1 ++ f2)) := by
 simp only [Rd]
 refine ⟨_, 2, rfl, by simp, by simp [maxLen], .inr ⟨by simp, g, 0, f1 ++ f2, rfl, hg, rfl, ?_⟩⟩
 refine RdRows.mk (k := 2) (vs := [u0, u1, v0, v1]) (fun j u hj => by simpa using hc j u hj) ?_
 have := h1.app h2
 simpa using this
/-- What a law has drawn, in three boxes. -/
structure Env5 (W : World) (n : Nat) (s : Sg) (es : List Eqn) (a b : Tm) (sa : Option Addr) (sc : Nat) (ev : Value) (ka : Option Addr) (kc : Nat) (kb : Option Addr) (kd : Nat) (sf ef fa fb : List Nat) : Prop where
 x0 : W.cell? ⟨n, 0, none⟩ = some (.slice sa s.syms.length sc)
 y0 : W.cell? ⟨n + 1, 0, none⟩ = some (.string a.name)
 y1 : W.cell? ⟨n + 1, 1, none⟩ = some (.slice ka a.kids.length kc)
 k0 : W.cell? ⟨n + 1 + 1, 0, none⟩ = some (.string b.name)
 k1 : W.cell? ⟨n + 1 + 1, 1, none⟩ = some (.slice kb b.kids.length kd)
 hs : RdVs W s.cd [.slice sa s.syms.length sc] sf
 he : Rd W (.sl (es.map Eqn.cd)) ev ef
 ha : RdVs W a.cd [.string a.name, .slice ka a.kids.length kc] fa
 hb : RdVs W b.cd [.string b.name, .slice kb b.kids.length kd] fb
theorem Env5.below {W W' : World} {n : Nat} {s : Sg} {es : List Eqn} {a b : Tm} {sa : Option Addr} {sc : Nat} {ev : Value} {ka : Option Addr} {kc : Nat} {kb : Option Addr} {kd : Nat} {sf ef fa fb : List Nat} (h : Env5 W n s es a b sa sc ev ka kc kb kd sf ef fa fb) (hb : Below W.heap.size W W') : Env5 W' n s es a b sa sc ev ka kc kb kd sf ef fa fb :=
 ⟨za h.x0 hb, za h.y0 hb, za h.y1 hb, za h.k0 hb, za h.k1 hb, h.hs.below hb, h.he.below hb, h.ha.below hb, h.hb.below hb⟩
theorem env5_new {u : World} {s : Sg} {es : List Eqn} {a b : Tm} {sa : Option Addr} {sc : Nat} {ev : Value} {ka : Option Addr} {kc : Nat} {kb : Option Addr} {kd : Nat} {sf ef fa fb : List Nat} (T U V : TypeId) (hs : RdVs u s.cd [.slice sa s.syms.length sc] sf) (he : Rd u (.sl (es.map Eqn.cd)) ev ef) (ha : RdVs u a.cd [.string a.name, .slice ka a.kids.length kc] fa) (hb : RdVs u b.cd [.string b.name, .slice kb b.kids.length kd] fb) :
  Env5 (((u.alloc (.cells #[.slice sa s.syms.length sc] T)).alloc (.cells #[.string a.name, .slice ka a.kids.length kc] U)).alloc (.cells #[.string b.name, .slice kb b.kids.length kd] V)) u.heap.size s es a b sa sc ev ka kc kb kd sf ef fa fb ∧
  Below u.heap.size u (((u.alloc (.cells #[.slice sa s.syms.length sc] T)).alloc (.cells #[.string a.name, .slice ka a.kids.length kc] U)).alloc (.cells #[.string b.name, .slice kb b.kids.length kd] V)) := by
 obtain ⟨X, Y, K, hbb, hsz⟩ := box3_new u [.slice sa s.syms.length sc] [.string a.name, .slice ka a.kids.length kc] [.string b.name, .slice kb b.kids.length kd] T U V
 exact ⟨⟨X 0 _ rfl, Y 0 _ rfl, Y 1 _ rfl, K 0 _ rfl, K 1 _ rfl, hs.below hbb, he.below hbb, ha.below hbb, hb.below hbb⟩, hbb⟩
theorem zdw {es : List Eqn} {a b : Tm} {n : Nat} (h : ∀ q ∈ es, q.a.size ≤ n ∧ q.b.size ≤ n) (ha : a.size ≤ n) (hb : b.size ≤ n) : ∀ t ∈ zx es [a, b], t.size ≤ n := by
 refine zcB (P := fun t => t.size ≤ n) (fun nm ks hp k hk => ?_) _ _ (by simp) (fun t ht => ?_)
 ·have h1 := Tm.size_mem hk
  simp only [Tm.size] at hp; omega
 ·rcases zer.1 ht with ht | ht
  ·obtain ⟨q, hq, h2⟩ := List.mem_flatMap.1 ht
   simp at h2
   rcases h2 with rfl | rfl
   ·exact (h q hq).1
   ·exact (h q hq).2
  ·simp at ht
   rcases ht with rfl | rfl
   ·exact ha
   ·exact hb
theorem big_of3 {es : List Eqn} {a b : Tm} (h1 : es.length ≤ 13) (h2 : ∀ q ∈ es, q.a.size ≤ 45 ∧ q.b.size ≤ 45) (ha : a.size ≤ 100) (hb : b.size ≤ 100) : Tm.sizes (zj es ++ [a, b]) ≤ 5000 := by
 have h := zc2 es 90 (fun e he => by have := h2 e he; omega)
 rw [Tm.sizes_append]; simp only [Tm.sizes]; omega
end Go.Proofs.YtlefdhhnlbpbkaaGreat
end
