/- Parts of the proof: CloU CloW. -/
import Derived.Deep.RegionHeld3
import Derived.Test.YtlefdhhnlbpbkaaPb17
import Derived.Test.YtlefdhhnlbpbkaaPb18
section
namespace Go.Proofs.Ytlefdhhnlbpbkaa
open Go Go.RowKit
set_option linter.unusedVariables false
set_option linter.unusedSimpArgs false
set_option maxRecDepth 100000
set_option maxHeartbeats 16000000
/-- The parts of equations and of terms more. -/
def zr (es : List Eqn) (ms : List Tm) : List Tm := Tm.addPs [] (zi es ++ ms)
theorem zay (es : List Eqn) (ms : List Tm) : Tm.Ord (zr es ms) := Tm.addPs_ord _ _ Tm.Ord.nil
theorem zY {es : List Eqn} {ms : List Tm} {t : Tm} (h : t ∈ zi es ++ ms) : t ∈ zr es ms := by
 have := (Tm.allIns_iff (zr es ms) (zi es ++ ms)).1 (Tm.addPs_all _ _) t h
 rw [Tm.allIn_eq] at this
 exact this.1
theorem zaq (es : List Eqn) (ms : List Tm) : ∀ e ∈ es, e.a ∈ zr es ms ∧ e.b ∈ zr es ms := fun e he =>
 ⟨zY (List.mem_append_left _ (List.mem_flatMap.2 ⟨e, he, by simp⟩)), zY (List.mem_append_left _ (List.mem_flatMap.2 ⟨e, he, by simp⟩))⟩
theorem zcB (es : List Eqn) (ms : List Tm) : (zr es ms).length ≤ Tm.sizes (zi es ++ ms) := by
 have := Tm.addPs_len (zi es ++ ms) []
 simpa [zr] using this
namespace Clo
theorem za9 {ps : List Tm} : ∀ (es : List Eqn) (n : Nat) (c : List Nat) (st : List Stp), (∀ e ∈ es, e.a ∈ ps ∧ e.b ∈ ps) → Good ps.length c → Good ps.length (given ps es n c st).1
 | [], _, _, _, _, h => h
 | e :: es, n, c, st, hin, h => by
  have h1 := hin e (by simp)
  have h2 : ∀ x ∈ es, x.a ∈ ps ∧ x.b ∈ ps := fun x hx => hin x (by simp [hx])
  unfold given
  split
  ·exact za9 es _ _ _ h2 h
  ·exact za9 es _ _ _ h2 (h.join (Tm.pos_yes h1.1).1 (Tm.pos_yes h1.2).1)
theorem zdh {ps : List Tm} : ∀ (f : Nat) (c : List Nat) (st : List Stp), Good ps.length c → Good ps.length (run ps f c st).1
 | 0, _, _, h => h
 | f + 1, c, st, h => by
  unfold run
  cases hn : next ps c with
  | none => exact h
  | some p =>
   obtain ⟨k, i⟩ := p
   obtain ⟨h1, h2, h3⟩ := next_spec hn
   exact zdh f _ _ (h.join (by omega) h2)
theorem close_good {ps : List Tm} {es : List Eqn} (hin : ∀ e ∈ es, e.a ∈ ps ∧ e.b ∈ ps) : Good ps.length (close ps es).1 := by
 rw [close_eq]
 exact zdh _ _ _ (za9 _ _ _ _ hin (Good.start _))
end Clo
/-- The classes, the steps. -/
def cloC (es : List Eqn) (ms : List Tm) : List Nat := (Clo.close (zr es ms) es).1
def cloS (es : List Eqn) (ms : List Tm) : List Stp := (Clo.close (zr es ms) es).2
theorem zaX (es : List Eqn) (ms : List Tm) : Clo.Good (zr es ms).length (cloC es ms) := Clo.close_good (zaq es ms)
def AllSrt (s : Sg) (ms : List Tm) (k : Nat) : Prop := ∀ j, j < k → ∀ (hj : j < ms.length), (ms[j].tsrt s).isSome = true
theorem AllSrt.succ {s : Sg} {ms : List Tm} {k : Nat} (h : AllSrt s ms k) (hk : k < ms.length) (h' : (ms[k].tsrt s).isSome = true) : AllSrt s ms (k + 1) := fun j hj hl => by
 rcases Nat.lt_or_ge j k with h1 | h1
 ·exact h j h1 hl
 ·obtain rfl : j = k := by omega
  exact h'
theorem AllSrt.all {s : Sg} {ms : List Tm} {k : Nat} (h : AllSrt s ms k) (hk : ms.length ≤ k) : ms.all (fun t => (t.tsrt s).isSome) = true := by
 rw [List.all_eq_true]
 intro t ht
 obtain ⟨j, hj, rfl⟩ := List.getElem_of_mem ht
 exact h j (by omega) hj
theorem zdi {s : Sg} {es : List Eqn} {ms : List Tm} {k : Nat} (hk : k < ms.length) (h : (ms[k].tsrt s).isSome = false) : zX s es ms = false := by
 have : ms.all (fun t => (t.tsrt s).isSome) = false := by
  rw [Bool.eq_false_iff]; intro h'; rw [List.all_eq_true] at h'
  have := h' ms[k] (zd2 hk)
  rw [h] at this; simp at this
 simp [zX, this]
theorem zb0 {s : Sg} {es : List Eqn} {ms : List Tm} {k : Nat} (hk : ms.length ≤ k) (h : AllSrt s ms k) : zX s es ms = (eqsB s es && decide ((zr es ms).length ≤ 24)) := by
 unfold zX zr; rw [h.all hk]; simp
theorem zdB {s : Sg} {es : List Eqn} (h : eqsB s es = true) : es.length ≤ 12 := by
 simp only [eqsB, zd7, decide_eq_true_eq] at h; exact h.2.1
theorem zaz {s : Sg} {es : List Eqn} {ms : List Tm} (h : zX s es ms = true) : es.length ≤ 12 ∧ (zr es ms).length ≤ 24 := by
 simp only [zX, zd7, decide_eq_true_eq] at h
 exact ⟨zdB h.1, h.2.2⟩
theorem zb1 (s : Sg) (es : List Eqn) (ms : List Tm) (vs : List Value) (v v2 : Value) (f f' f2 : List Nat) (w : World) (hbig : Tm.sizes (zi es ++ ms) ≤ 1000000000) (hv : RdVs w s.cd vs f) (hx : Rd w (.sl (es.map Eqn.cd)) v f') (h2 : Rd w (.sl (ms.map Tm.cd)) v2 f2) :
  Calls Try.prog 59 #[.agg vs.toArray, v, v2] w fun e w' => e = .returned (.bool (zX s es ms)) ∧ Below w.heap.size w w' := by
 obtain ⟨a0, c0, f0, rfl, _, m0⟩ := Sg.open hv
 obtain ⟨a, cap, rfl, hc1, hc2⟩ := zd hx
 obtain ⟨a2, cap2, rfl, hc3, hc4⟩ := zd h2
 have hbs := hbig
 rw [Tm.sizes_append] at hbs
 go_enter Try.func59, Try.ntmps59
 go_wp2_with fail
 go_loopw [7] (fun i wq => ∃ k : Nat, k ≤ ms.length ∧ i = .int .i64 k ∧ Hid (AllSrt s ms k) ∧ wq.cell? ⟨w.heap.size, 0, none⟩ = some (.slice a0 s.syms.length c0) ∧ w.heap.size < wq.heap.size ∧ Below w.heap.size w wq) (fun i _ => ms.length - (intOf i).toNat)
 case atStart => exact ⟨0, Nat.zero_le _, rfl, Lib.hid (fun j hj => by omega), by simp, by simp, zb _ _⟩
 case round =>
  obtain ⟨k, hkl, rfl, hall, cx, hz3, hBM⟩ := hrel
  by_cases hlt : k < ms.length
  ·obtain ⟨b, off, rfl, hbs2, _⟩ := zo h2 (by omega)
   have hbz : b < wr.heap.size := by omega
   obtain ⟨b1, e1, g1, d0, d1, t0, t1, _⟩ := Tm.at (h2.below hBM) hlt
   have hvM := hv.below hBM
   have ha1 := Tm.size_mem (zd2 hlt)
   go_wp2_with fail
   go_region_held3 (fun W => W.cell? ⟨w.heap.size, 0, none⟩ = some (.slice a0 s.syms.length c0) ∧ W.cell? ⟨b, off + k * 2, none⟩ = some (.string ms[k].name) ∧ W.cell? ⟨b, off + k * 2 + 1, none⟩ = some (.slice b1 ms[k].kids.length e1))
    (first | exact ⟨cx, d0, d1⟩ | exact ⟨za cx (zg hb4), za d0 (zg hb4), za d1 (zg hb4)⟩)
    (first | (go_at_call 24; (with_reducible refine (zac s ms[k] (by omega) _ _ _ _ _ (by exact hvM.below (zj _)) (by exact (Tm.rdv t0 t1).below (zj _))).mono ?_); rintro e w4 ⟨rfl, hb4⟩))
   have hB4 := hBM.trans ((zg hb4).mono hBM.size)
   have hz4 := (zg hb4).size
   have cx4 := za cx (zg hb4)
   have hz5 : w.heap.size < w4.heap.size := by omega
   clear hb4 d0 d1 cx
   cases ho : ms[k].tsrt s with
   | none =>
    have HF := Lib.hid (zdi (es := es) hlt (by rw [ho]; rfl))
    clear ho
    simp only [Option.getD_none, Option.isSome_none]
    go_wp2_with fail
    go_ret
    exact ⟨retB HF.out.symm, hB4⟩
   | some m =>
    have HE := Lib.hid (hall.out.succ hlt (by rw [ho]; rfl))
    clear ho
    simp only [Option.getD_some, Option.isSome_some]
    go_wp2_with fail
    go_roundw
    case rel => exact ⟨k + 1, by omega, by go_num, HE, cx4, hz5, hB4⟩
    case measure => simp [intOf]; omega
  ·have HF := Lib.hid (zb0 (es := es) (by omega) hall.out)
   have hlp := zcB es ms
   go_wp2_with fail
   refine (zaF s es _ _ _ _ _ (by omega) (hv.below hBM) (hx.below hBM)).mono ?_
   rintro e w4 ⟨rfl, hb4⟩
   have hB4 := hBM.trans (hb4.mono hBM.size)
   clear hb4
   cases h1 : eqsB s es
   ·have HG : Hid (zX s es ms = false) := Lib.hid (by rw [HF.out, h1]; rfl)
    clear h1
    go_wp2_with fail
    go_ret
    exact ⟨retB HG.out.symm, hB4⟩
   have HG : Hid (zX s es ms = decide ((zr es ms).length ≤ 24)) := Lib.hid (by rw [HF.out, h1]; rfl)
   clear h1
   go_wp2_with fail
   refine (zK es ms _ _ _ _ _ hbig (hx.below hB4) (h2.below hB4)).mono ?_
   rintro e w5 ⟨⟨rv, fp, rfl, hr, _⟩, hb5⟩
   have hB5 := hB4.trans (hb5.mono hB4.size)
   change Rd w5 (.sl ((zr es ms).map Tm.cd)) rv fp at hr
   obtain ⟨ra, rc, rfl, hrc1, hrc2⟩ := zd hr
   clear hb5 hr
   go_wp2_with fail
   go_ret
   exact ⟨retB (by rw [HG.out, Bool.eq_iff_iff]; simp only [decide_eq_true_eq]; omega), hB5⟩
theorem zc3 {W : World} {a b : Tm} {u0 u1 v0 v1 : Value} {f1 f2 : List Nat} {g : Nat} (h1 : RdVs W a.cd [u0, u1] f1) (h2 : RdVs W b.cd [v0, v1] f2) (hg : g < W.heap.size) (hc : ∀ j u, [u0, u1, v0, v1][j]? = some u → W.cell? ⟨g, j, none⟩ = some u) : ∃ fp, Rd W (.sl ([a, b].map Tm.cd)) (.slice (some ⟨g, 0, none⟩) 2 2) fp := by
 refine ⟨g :: (f1 ++ f2), ?_⟩
 simp only [Rd]
 refine ⟨_, 2, rfl, by simp, by simp [maxLen], .inr ⟨by simp, g, 0, f1 ++ f2, rfl, hg, rfl, ?_⟩⟩
 refine RdRows.mk (k := 2) (vs := [u0, u1, v0, v1]) (fun j u hj => by simpa using hc j u hj) ?_
 have := h1.app h2
 simpa using this
theorem zcl {w : World} {α : Type} {cd : α → List CD} (a : Option Addr) (c : Nat) (hc : c ≤ maxLen) : Rd w (.sl (([] : List α).map cd)) (.slice a 0 c) [] := by
 simp only [List.map_nil, Rd]; exact ⟨a, c, rfl, by simp, hc, by simp⟩
/-- SameClass, SameSteps, SameIs. -/
def zbA (s : Sg) (es : List Eqn) (ms : List Tm) : List Int := if zX s es ms = true then nats (cloC es ms) else []
def zB (s : Sg) (es : List Eqn) (a b : Tm) : Bool := zX s es [a, b] && (Clo.cl (cloC es [a, b]) (Tm.pos (zr es [a, b]) a) == Clo.cl (cloC es [a, b]) (Tm.pos (zr es [a, b]) b))
theorem zaY {s : Sg} {es : List Eqn} {ms : List Tm} (h : zX s es ms = false) : zbA s es ms = [] := by unfold zbA; rw [h]; rfl
theorem zbc {s : Sg} {es : List Eqn} {ms : List Tm} (h : zX s es ms = true) : zbA s es ms = nats (cloC es ms) := by unfold zbA; rw [h]; rfl
theorem zbL (s : Sg) (es : List Eqn) (ms : List Tm) (vs : List Value) (v v2 : Value) (f f' f2 : List Nat) (w : World) (hbig : Tm.sizes (zi es ++ ms) ≤ 1000000000) (hv : RdVs w s.cd vs f) (hx : Rd w (.sl (es.map Eqn.cd)) v f') (h2 : Rd w (.sl (ms.map Tm.cd)) v2 f2) :
  Calls Try.prog 33 #[.agg vs.toArray, v, v2] w fun e w' => ∃ rv fp, e = .returned rv ∧ Rd w' (.sl ((zbA s es ms).map zx)) rv fp ∧ Fresh w.heap.size w' fp ∧ Below w.heap.size w w' := by
 obtain ⟨a0, c0, f0, rfl, _, m0⟩ := Sg.open hv
 obtain ⟨a, cap, rfl, hc1, hc2⟩ := zd hx
 obtain ⟨a2, cap2, rfl, hc3, hc4⟩ := zd h2
 have hb0 := zb w (.cells #[.slice a0 s.syms.length c0] 25)
 go_enter Try.func33, Try.ntmps33
 go_wp2_with fail
 refine (zb1 s es ms _ _ _ _ _ _ _ hbig (by exact hv.below hb0) (by exact hx.below hb0) (by exact h2.below hb0)).mono ?_
 rintro e w1 ⟨rfl, hb1⟩
 have hB1 := hb0.trans (hb1.mono hb0.size)
 clear hb1 hb0
 cases hm : zX s es ms
 ·have HM := Lib.hid (zaY hm)
  clear hm
  go_wp2_with fail
  go_ret
  exact ⟨_, [], rfl, by rw [HM.out]; exact zcl _ _ (by simp), Fresh.nil _ _, hB1.alloc hB1.size _⟩
 ·have HM := Lib.hid (zbc hm)
  obtain ⟨hl12, hl24⟩ := zaz hm
  clear hm
  go_wp2_with fail
  refine (zK es ms _ _ _ _ _ hbig (hx.below hB1) (h2.below hB1)).mono ?_
  rintro e w2 ⟨⟨rv, fp, rfl, hr, _⟩, hb2⟩
  have hB2 := hB1.trans (hb2.mono hB1.size)
  change Rd w2 (.sl ((zr es ms).map Tm.cd)) rv fp at hr
  clear hb2
  go_wp2_with fail
  refine (zbx (zr es ms) es _ _ _ _ (zay es ms) (by omega) (by omega) (zaq es ms) ⟨fp, hr⟩ (hx.below hB2)).mono ?_
  rintro e w3 ⟨sv, cv, rfl, st⟩
  have hB3 := hB2.trans (st.bel.mono hB2.size)
  obtain ⟨ca, cn, cc, rfl⟩ := st.crow.form'
  obtain ⟨sa, sn, sc, rfl⟩ := st.srow.form'
  go_wp2_with fail
  go_ret
  obtain ⟨fp', h3, h4, _⟩ := Own.fresh st.crow (Fresh.nil _ _)
  exact ⟨_, fp', rfl, by rw [HM.out]; exact h3, h4.mono hB2.size, hB3⟩
theorem zc4 (s : Sg) (es : List Eqn) (a b : Tm) (vs ua ub : List Value) (v : Value) (f f' fa fb : List Nat) (w : World) (hbig : Tm.sizes (zi es ++ [a, b]) ≤ 1000000000) (hv : RdVs w s.cd vs f) (hx : Rd w (.sl (es.map Eqn.cd)) v f') (ha : RdVs w a.cd ua fa) (hb : RdVs w b.cd ub fb) :
  Calls Try.prog 34 #[.agg vs.toArray, v, .agg ua.toArray, .agg ub.toArray] w fun e w' => e = .returned (.bool (zB s es a b)) ∧ Below w.heap.size w w' := by
 obtain ⟨a0, c0, f0, rfl, _, m0⟩ := Sg.open hv
 obtain ⟨ea, ec, rfl, hc1, hc2⟩ := zd hx
 obtain ⟨xa, xc, xf, rfl, _, xs, xk⟩ := Tm.open ha
 obtain ⟨ya, yc, yf, rfl, _, ys, yk⟩ := Tm.open hb
 go_enter Try.func34, Try.ntmps34
 go_wp2_with fail
 have B3 := box3 (w := w) (wr := (((w.alloc (.cells #[.slice a0 s.syms.length c0] 25)).alloc (.cells #[.string a.name, .slice xa a.kids.length xc] 29)).alloc (.cells #[.string b.name, .slice ya b.kids.length yc] 29)).alloc (.cells #[.string a.name, .slice xa a.kids.length xc, .string b.name, .slice ya b.kids.length yc] 29)) (cs := #[.slice a0 s.syms.length c0]) (ds := #[.string a.name, .slice xa a.kids.length xc]) (es := #[.string b.name, .slice ya b.kids.length yc]) (T := 25) (U := 29) (V := 29) ((Below.refl _ _).alloc (by simp) _)
 obtain ⟨X, Y, Z, _, _, hz, hB⟩ := B3
 have X0 := X 0
 have Y0 := Y 0
 have Y1 := Y 1
 have Z0 := Z 0
 have Z1 := Z 1
 simp only [zdY, zdW, zdX] at X0 Y0 Y1 Z0 Z1
 have R := zq (((w.alloc (.cells #[.slice a0 s.syms.length c0] 25)).alloc (.cells #[.string a.name, .slice xa a.kids.length xc] 29)).alloc (.cells #[.string b.name, .slice ya b.kids.length yc] 29)) #[.string a.name, .slice xa a.kids.length xc, .string b.name, .slice ya b.kids.length yc] 29
 simp only [World.size_alloc] at R
 generalize (((w.alloc (.cells #[.slice a0 s.syms.length c0] 25)).alloc (.cells #[.string a.name, .slice xa a.kids.length xc] 29)).alloc (.cells #[.string b.name, .slice ya b.kids.length yc] 29)).alloc (.cells #[.string a.name, .slice xa a.kids.length xc, .string b.name, .slice ya b.kids.length yc] 29) = W at *
 obtain ⟨fm, hm2⟩ := zc3 (W := W) (a := a) (b := b) (g := w.heap.size + 1 + 1 + 1) (by exact ha.below hB) (by exact hb.below hB) (World.block_lt_of_cell? _ _ (R 0)) (fun j u hj => by rw [R j]; simpa using hj)
 clear X Y Z R
 refine (zb1 s es [a, b] _ _ _ _ _ _ _ hbig (by exact hv.below hB) (by exact hx.below hB) (by exact hm2)).mono ?_
 rintro e w1 ⟨rfl, hb1⟩
 have hB1 := hB.trans (hb1.mono hB.size)
 have hms := hm2.below hb1
 have Y0' := za Y0 hb1
 have Y1' := za Y1 hb1
 have Z0' := za Z0 hb1
 have Z1' := za Z1 hb1
 clear hb1 Y0 Y1 Z0 Z1 X0 hz hm2
 cases hm : zX s es [a, b]
 ·have HM : Hid (zB s es a b = false) := Lib.hid (by unfold zB; rw [hm]; rfl)
  clear hm
  go_wp2_with fail
  go_ret
  exact ⟨retB HM.out.symm, hB1⟩
 ·have HM : Hid (zB s es a b = (Clo.cl (cloC es [a, b]) (Tm.pos (zr es [a, b]) a) == Clo.cl (cloC es [a, b]) (Tm.pos (zr es [a, b]) b))) := Lib.hid (by unfold zB; rw [hm]; rfl)
  obtain ⟨hl12, hl24⟩ := zaz hm
  clear hm
  go_wp2_with fail
  refine (zK es [a, b] _ _ _ _ _ hbig (hx.below hB1) hms).mono ?_
  rintro e w2 ⟨⟨rv, fp, rfl, hr, hf⟩, hb2⟩
  have hB2 := hB1.trans (hb2.mono hB1.size)
  change Rd w2 (.sl ((zr es [a, b]).map Tm.cd)) rv fp at hr
  have Y0 := za Y0' hb2
  have Y1 := za Y1' hb2
  have Z0 := za Z0' hb2
  have Z1 := za Z1' hb2
  clear hb2 Y0' Y1' Z0' Z1' hms
  obtain ⟨ra, rc, rfl, _, _⟩ := zd hr
  have hma : a ∈ zr es [a, b] := zY (List.mem_append_right _ (by simp))
  have hmb : b ∈ zr es [a, b] := zY (List.mem_append_right _ (by simp))
  have HO := Lib.hid (zay es [a, b])
  have HG := Lib.hid (zaX es [a, b]).1
  have HE := Lib.hid (zaq es [a, b])
  have HCC : Hid (cloC es [a, b] = (Clo.close (zr es [a, b]) es).1) := Lib.hid rfl
  generalize cloC es [a, b] = cc at HM HG HCC
  generalize zr es [a, b] = ps at *
  go_wp2_with fail
  refine (zbx ps es _ _ _ _ HO.out (by omega) (by omega) HE.out ⟨fp, hr⟩ (hx.below hB2)).mono ?_
  rintro e w3 ⟨sv, cv, rfl, st⟩
  rw [← HCC.out] at st
  have hB3 := hB2.trans (st.bel.mono hB2.size)
  have Y0' := za Y0 st.bel
  have Y1' := za Y1 st.bel
  have Z0' := za Z0 st.bel
  have Z1' := za Z1 st.bel
  have hpx := (Tm.pos_yes hma).1
  have hpy := (Tm.pos_yes hmb).1
  obtain ⟨g, cp, rfl, hgB, hgw, hcp⟩ := st.crow.form (by rw [zl, HG.out]; omega)
  rw [zl] at st hcp ⊢
  have ca := (st.crow.cell (k := Tm.pos ps a) (by rw [zl, HG.out]; exact hpx)).1
  have cb := (st.crow.cell (k := Tm.pos ps b) (by rw [zl, HG.out]; exact hpy)).1
  rw [Clo.nats_get (by rw [HG.out]; exact hpx)] at ca
  rw [Clo.nats_get (by rw [HG.out]; exact hpy)] at cb
  have hcx : Tm.pos ps a < cc.length := by rw [HG.out]; exact hpx
  have hcy : Tm.pos ps b < cc.length := by rw [HG.out]; exact hpy
  obtain ⟨sa, sn, sc, rfl⟩ := st.srow.form'
  have hvw : TmsR w3 ps (.slice ra ps.length rc) := ⟨fp, hr.below st.bel⟩
  have hxw : TmR w3 a (.agg #[.string a.name, .slice xa a.kids.length xc]) := TmR.mk xs ⟨_, xk.below hB3⟩
  have hyw : TmR w3 b (.agg #[.string b.name, .slice ya b.kids.length yc]) := TmR.mk ys ⟨_, yk.below hB3⟩
  obtain ⟨r, hr0⟩ : ∃ r, r = (Clo.cl cc (Tm.pos ps a) == Clo.cl cc (Tm.pos ps b)) := ⟨_, rfl⟩
  have heb : (((Clo.cl cc (Tm.pos ps a) : Nat) : Int) == ((Clo.cl cc (Tm.pos ps b) : Nat) : Int)) = r := by
   rw [hr0, Bool.eq_iff_iff]; simp only [beq_iff_eq]; omega
  rw [← hr0] at HM
  clear hr0 st Y0 Y1 Z0 Z1 hr
  go_wp2_with fail
  have q0 := cell_regrown Y0'
  have q1 := cell_regrown Y1'
  have q2 := cell_regrown Z0'
  have q3 := cell_regrown Z1'
  have q4 := cell_regrown ca
  have q5 := cell_regrown cb
  refine wp_region_quiet_below (by kernel_rfl) (by kernel_rfl) ?_
  repeat (quiet_step (first
   | (with_reducible refine Calls.regrown_of (zz ps a _ _ _ HO.out hma (hvw.below (below_regrown _ _ _)) (hxw.below (below_regrown _ _ _))))
   | (with_reducible refine Calls.regrown_of (zz ps b _ _ _ HO.out hmb (hvw.below (below_regrown _ _ _)) (hyw.below (below_regrown _ _ _))))))
  refine wpQuiet_nil ?_
  intro w4 hw4
  obtain ⟨⟨dq, osq⟩, hw4⟩ := hw4
  have hb4 : Below w3.heap.size w3 w4 := hw4 ▸ below_regrown w3 dq osq
  clear hw4 q0 q1 q2 q3 q4 q5
  go_wp2_with fail
  go_ret
  exact ⟨retB HM.out.symm, hB3.trans (hb4.mono hB3.size)⟩
end Go.Proofs.Ytlefdhhnlbpbkaa
end
