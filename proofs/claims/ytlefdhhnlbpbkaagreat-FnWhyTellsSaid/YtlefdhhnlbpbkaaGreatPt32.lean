/- Parts of the proof: CloU CloW CloQ. -/
import Derived.Deep.RegionHeld3
import Derived.Test.YtlefdhhnlbpbkaaGreatPt31
import Derived.Test.YtlefdhhnlbpbkaaGreatPt16
section
namespace Go.Proofs.YtlefdhhnlbpbkaaGreat
open Go Go.RowKit
set_option linter.unusedVariables false
set_option linter.unusedSimpArgs false
set_option maxRecDepth 100000
set_option maxHeartbeats 16000000
/-- The parts of equations and of terms more. -/
def zq (es : List Eqn) (ms : List Tm) : List Tm := Tm.addPs [] (zk es ++ ms)
theorem zaw (es : List Eqn) (ms : List Tm) : Tm.Ord (zq es ms) := Tm.addPs_ord _ _ Tm.Ord.nil
theorem zR {es : List Eqn} {ms : List Tm} {t : Tm} (h : t ∈ zk es ++ ms) : t ∈ zq es ms := by
 have := (Tm.allIns_iff (zq es ms) (zk es ++ ms)).1 (Tm.addPs_all _ _) t h
 rw [Tm.allIn_eq] at this
 exact this.1
theorem zab (es : List Eqn) (ms : List Tm) : ∀ e ∈ es, e.a ∈ zq es ms ∧ e.b ∈ zq es ms := fun e he =>
 ⟨zR (List.mem_append_left _ (List.mem_flatMap.2 ⟨e, he, by simp⟩)), zR (List.mem_append_left _ (List.mem_flatMap.2 ⟨e, he, by simp⟩))⟩
theorem zcV (es : List Eqn) (ms : List Tm) : (zq es ms).length ≤ Tm.sizes (zk es ++ ms) := by
 have := Tm.addPs_len (zk es ++ ms) []
 simpa [zq] using this
namespace Clo
theorem zbj {ps : List Tm} : ∀ (es : List Eqn) (n : Nat) (c : List Nat) (st : List Stp), (∀ e ∈ es, e.a ∈ ps ∧ e.b ∈ ps) → Good ps.length c → Good ps.length (given ps es n c st).1
 | [], _, _, _, _, h => h
 | e :: es, n, c, st, hin, h => by
  have h1 := hin e (by simp)
  have h2 : ∀ x ∈ es, x.a ∈ ps ∧ x.b ∈ ps := fun x hx => hin x (by simp [hx])
  unfold given
  split
  ·exact zbj es _ _ _ h2 h
  ·exact zbj es _ _ _ h2 (h.join (Tm.pos_yes h1.1).1 (Tm.pos_yes h1.2).1)
theorem zdK {ps : List Tm} : ∀ (f : Nat) (c : List Nat) (st : List Stp), Good ps.length c → Good ps.length (run ps f c st).1
 | 0, _, _, h => h
 | f + 1, c, st, h => by
  unfold run
  cases hn : next ps c with
  | none => exact h
  | some p =>
   obtain ⟨k, i⟩ := p
   obtain ⟨h1, h2, h3⟩ := next_spec hn
   exact zdK f _ _ (h.join (by omega) h2)
theorem close_good {ps : List Tm} {es : List Eqn} (hin : ∀ e ∈ es, e.a ∈ ps ∧ e.b ∈ ps) : Good ps.length (close ps es).1 := by
 rw [close_eq]
 exact zdK _ _ _ (zbj _ _ _ _ hin (Good.start _))
end Clo
/-- The classes, the steps. -/
def cloC (es : List Eqn) (ms : List Tm) : List Nat := (Clo.close (zq es ms) es).1
def cloS (es : List Eqn) (ms : List Tm) : List Stp := (Clo.close (zq es ms) es).2
theorem za5 (es : List Eqn) (ms : List Tm) : Clo.Good (zq es ms).length (cloC es ms) := Clo.close_good (zab es ms)
def AllSrt (s : Sg) (ms : List Tm) (k : Nat) : Prop := ∀ j, j < k → ∀ (hj : j < ms.length), (ms[j].tsrt s).isSome = true
theorem AllSrt.succ {s : Sg} {ms : List Tm} {k : Nat} (h : AllSrt s ms k) (hk : k < ms.length) (h' : (ms[k].tsrt s).isSome = true) : AllSrt s ms (k + 1) := fun j hj hl => by
 rcases Nat.lt_or_ge j k with h1 | h1
 ·exact h j h1 hl
 ·obtain rfl : j = k := by omega
  exact h'
theorem AllSrt.all {s : Sg} {ms : List Tm} {k : Nat} (h : AllSrt s ms k) (hk : ms.length ≤ k) : ms.all (fun t => (t.tsrt s).isSome) = true := by
 rw [List.all_eq_true]
 intro t ht
 obtain ⟨j, hj, rfl⟩ := List.getElem_of_mem ht
 exact h j (by omega) hj
theorem zdL {s : Sg} {es : List Eqn} {ms : List Tm} {k : Nat} (hk : k < ms.length) (h : (ms[k].tsrt s).isSome = false) : zQ s es ms = false := by
 have : ms.all (fun t => (t.tsrt s).isSome) = false := by
  rw [Bool.eq_false_iff]; intro h'; rw [List.all_eq_true] at h'
  have := h' ms[k] (zeJ hk)
  rw [h] at this; simp at this
 simp [zQ, this]
theorem zcc {s : Sg} {es : List Eqn} {ms : List Tm} {k : Nat} (hk : ms.length ≤ k) (h : AllSrt s ms k) : zQ s es ms = (eqsB s es && decide ((zq es ms).length ≤ 24)) := by
 unfold zQ zq; rw [h.all hk]; simp
theorem zd7 {s : Sg} {es : List Eqn} (h : eqsB s es = true) : es.length ≤ 12 := by
 simp only [eqsB, zeO, decide_eq_true_eq] at h; exact h.2.1
theorem zax {s : Sg} {es : List Eqn} {ms : List Tm} (h : zQ s es ms = true) : es.length ≤ 12 ∧ (zq es ms).length ≤ 24 := by
 simp only [zQ, zeO, decide_eq_true_eq] at h
 exact ⟨zd7 h.1, h.2.2⟩
theorem zcd (s : Sg) (es : List Eqn) (ms : List Tm) (vs : List Value) (v v2 : Value) (f f' f2 : List Nat) (w : World) (hbig : Tm.sizes (zk es ++ ms) ≤ 1000000000) (hv : RdVs w s.cd vs f) (hx : Rd w (.sl (es.map Eqn.cd)) v f') (h2 : Rd w (.sl (ms.map Tm.cd)) v2 f2) :
  Calls Tryz.prog 74 #[.agg vs.toArray, v, v2] w fun e w' => e = .returned (.bool (zQ s es ms)) ∧ Below w.heap.size w w' := by
 obtain ⟨a0, c0, f0, rfl, _, m0⟩ := Sg.open hv
 obtain ⟨a, cap, rfl, hc1, hc2⟩ := zc hx
 obtain ⟨a2, cap2, rfl, hc3, hc4⟩ := zc h2
 have hbs := hbig
 rw [Tm.sizes_append] at hbs
 go_enter Tryz.func74, Tryz.ntmps74
 go_wp2_with fail
 go_loopw [7] (fun i wq => ∃ k : Nat, k ≤ ms.length ∧ i = .int .i64 k ∧ Hid (AllSrt s ms k) ∧ wq.cell? ⟨w.heap.size, 0, none⟩ = some (.slice a0 s.syms.length c0) ∧ w.heap.size < wq.heap.size ∧ Below w.heap.size w wq) (fun i _ => ms.length - (intOf i).toNat)
 case atStart => exact ⟨0, Nat.zero_le _, rfl, Lib.hid (fun j hj => by omega), by simp, by simp, zb _ _⟩
 case round =>
  obtain ⟨k, hkl, rfl, hall, cx, hz3, hBM⟩ := hrel
  by_cases hlt : k < ms.length
  ·obtain ⟨b, off, rfl, hbs2, _⟩ := zo h2 (by omega)
   have hbz : b < wr.heap.size := by omega
   obtain ⟨b1, e1, g1, d0, d1, t0, t1, _⟩ := Tm.at (h2.below hBM) hlt
   have hvM := hv.below hBM
   have ha1 := Tm.size_mem (zeJ hlt)
   go_wp2_with fail
   go_region_held3 (fun W => W.cell? ⟨w.heap.size, 0, none⟩ = some (.slice a0 s.syms.length c0) ∧ W.cell? ⟨b, off + k * 2, none⟩ = some (.string ms[k].name) ∧ W.cell? ⟨b, off + k * 2 + 1, none⟩ = some (.slice b1 ms[k].kids.length e1))
    (first | exact ⟨cx, d0, d1⟩ | exact ⟨za cx (zg hb4), za d0 (zg hb4), za d1 (zg hb4)⟩)
    (first | (go_at_call 42; (with_reducible refine (zak s ms[k] (by omega) _ _ _ _ _ (by exact hvM.below (zj _)) (by exact (Tm.rdv t0 t1).below (zj _))).mono ?_); rintro e w4 ⟨rfl, hb4⟩))
   have hB4 := hBM.trans ((zg hb4).mono hBM.size)
   have hz4 := (zg hb4).size
   have cx4 := za cx (zg hb4)
   have hz5 : w.heap.size < w4.heap.size := by omega
   clear hb4 d0 d1 cx
   cases ho : ms[k].tsrt s with
   | none =>
    have HF := Lib.hid (zdL (es := es) hlt (by rw [ho]; rfl))
    clear ho
    simp only [Option.getD_none, Option.isSome_none]
    go_wp2_with fail
    go_ret
    exact ⟨retB HF.out.symm, hB4⟩
   | some m =>
    have HE := Lib.hid (hall.out.succ hlt (by rw [ho]; rfl))
    clear ho
    simp only [Option.getD_some, Option.isSome_some]
    go_wp2_with fail
    go_roundw
    case rel => exact ⟨k + 1, by omega, by go_num, HE, cx4, hz5, hB4⟩
    case measure => simp [intOf]; omega
  ·have HF := Lib.hid (zcc (es := es) (by omega) hall.out)
   have hlp := zcV es ms
   go_wp2_with fail
   refine (zaM s es _ _ _ _ _ (by omega) (hv.below hBM) (hx.below hBM)).mono ?_
   rintro e w4 ⟨rfl, hb4⟩
   have hB4 := hBM.trans (hb4.mono hBM.size)
   clear hb4
   cases h1 : eqsB s es
   ·have HG : Hid (zQ s es ms = false) := Lib.hid (by rw [HF.out, h1]; rfl)
    clear h1
    go_wp2_with fail
    go_ret
    exact ⟨retB HG.out.symm, hB4⟩
   have HG : Hid (zQ s es ms = decide ((zq es ms).length ≤ 24)) := Lib.hid (by rw [HF.out, h1]; rfl)
   clear h1
   go_wp2_with fail
   refine (zU es ms _ _ _ _ _ hbig (hx.below hB4) (h2.below hB4)).mono ?_
   rintro e w5 ⟨⟨rv, fp, rfl, hr, _⟩, hb5⟩
   have hB5 := hB4.trans (hb5.mono hB4.size)
   change Rd w5 (.sl ((zq es ms).map Tm.cd)) rv fp at hr
   obtain ⟨ra, rc, rfl, hrc1, hrc2⟩ := zc hr
   clear hb5 hr
   go_wp2_with fail
   go_ret
   exact ⟨retB (by rw [HG.out, Bool.eq_iff_iff]; simp only [decide_eq_true_eq]; omega), hB5⟩
theorem zcA {W : World} {a b : Tm} {u0 u1 v0 v1 : Value} {f1 f2 : List Nat} {g : Nat} (h1 : RdVs W a.cd [u0, u1] f1) (h2 : RdVs W b.cd [v0, v1] f2) (hg : g < W.heap.size) (hc : ∀ j u, [u0, u1, v0, v1][j]? = some u → W.cell? ⟨g, j, none⟩ = some u) : ∃ fp, Rd W (.sl ([a, b].map Tm.cd)) (.slice (some ⟨g, 0, none⟩) 2 2) fp := by
 refine ⟨g :: (f1 ++ f2), ?_⟩
 simp only [Rd]
 refine ⟨_, 2, rfl, by simp, by simp [maxLen], .inr ⟨by simp, g, 0, f1 ++ f2, rfl, hg, rfl, ?_⟩⟩
 refine RdRows.mk (k := 2) (vs := [u0, u1, v0, v1]) (fun j u hj => by simpa using hc j u hj) ?_
 have := h1.app h2
 simpa using this
theorem zbL {w : World} {α : Type} {cd : α → List CD} (a : Option Addr) (c : Nat) (hc : c ≤ maxLen) : Rd w (.sl (([] : List α).map cd)) (.slice a 0 c) [] := by
 simp only [List.map_nil, Rd]; exact ⟨a, c, rfl, by simp, hc, by simp⟩
/-- SameClass, SameSteps, SameIs. -/
def zci (s : Sg) (es : List Eqn) (ms : List Tm) : List Int := if zQ s es ms = true then nats (cloC es ms) else []
def zbM (s : Sg) (es : List Eqn) (ms : List Tm) : List Tm × List Stp := if zQ s es ms = true then (zq es ms, cloS es ms) else ([], [])
def zC (s : Sg) (es : List Eqn) (a b : Tm) : Bool := zQ s es [a, b] && (Clo.cl (cloC es [a, b]) (Tm.pos (zq es [a, b]) a) == Clo.cl (cloC es [a, b]) (Tm.pos (zq es [a, b]) b))
theorem zcX {s : Sg} {es : List Eqn} {ms : List Tm} (h : zQ s es ms = false) : zci s es ms = [] := by unfold zci; rw [h]; rfl
theorem zcj {s : Sg} {es : List Eqn} {ms : List Tm} (h : zQ s es ms = true) : zci s es ms = nats (cloC es ms) := by unfold zci; rw [h]; rfl
theorem zcY {s : Sg} {es : List Eqn} {ms : List Tm} (h : zQ s es ms = false) : zbM s es ms = ([], []) := by unfold zbM; rw [h]; rfl
theorem zd9 {s : Sg} {es : List Eqn} {ms : List Tm} (h : zQ s es ms = true) : zbM s es ms = (zq es ms, cloS es ms) := by unfold zbM; rw [h]; rfl
theorem zbZ (s : Sg) (es : List Eqn) (ms : List Tm) (vs : List Value) (v v2 : Value) (f f' f2 : List Nat) (w : World) (hbig : Tm.sizes (zk es ++ ms) ≤ 1000000000) (hv : RdVs w s.cd vs f) (hx : Rd w (.sl (es.map Eqn.cd)) v f') (h2 : Rd w (.sl (ms.map Tm.cd)) v2 f2) :
  Calls Tryz.prog 46 #[.agg vs.toArray, v, v2] w fun e w' => ∃ rv fp, e = .returned rv ∧ Rd w' (.sl ((zci s es ms).map zv)) rv fp ∧ Fresh w.heap.size w' fp ∧ Below w.heap.size w w' := by
 obtain ⟨a0, c0, f0, rfl, _, m0⟩ := Sg.open hv
 obtain ⟨a, cap, rfl, hc1, hc2⟩ := zc hx
 obtain ⟨a2, cap2, rfl, hc3, hc4⟩ := zc h2
 have hb0 := zb w (.cells #[.slice a0 s.syms.length c0] 25)
 go_enter Tryz.func46, Tryz.ntmps46
 go_wp2_with fail
 refine (zcd s es ms _ _ _ _ _ _ _ hbig (by exact hv.below hb0) (by exact hx.below hb0) (by exact h2.below hb0)).mono ?_
 rintro e w1 ⟨rfl, hb1⟩
 have hB1 := hb0.trans (hb1.mono hb0.size)
 clear hb1 hb0
 cases hm : zQ s es ms
 ·have HM := Lib.hid (zcX hm)
  clear hm
  go_wp2_with fail
  go_ret
  exact ⟨_, [], rfl, by rw [HM.out]; exact zbL _ _ (by simp), Fresh.nil _ _, hB1.alloc hB1.size _⟩
 ·have HM := Lib.hid (zcj hm)
  obtain ⟨hl12, hl24⟩ := zax hm
  clear hm
  go_wp2_with fail
  refine (zU es ms _ _ _ _ _ hbig (hx.below hB1) (h2.below hB1)).mono ?_
  rintro e w2 ⟨⟨rv, fp, rfl, hr, _⟩, hb2⟩
  have hB2 := hB1.trans (hb2.mono hB1.size)
  change Rd w2 (.sl ((zq es ms).map Tm.cd)) rv fp at hr
  clear hb2
  go_wp2_with fail
  refine (zbG (zq es ms) es _ _ _ _ (zaw es ms) (by omega) (by omega) (zab es ms) ⟨fp, hr⟩ (hx.below hB2)).mono ?_
  rintro e w3 ⟨sv, cv, rfl, st⟩
  have hB3 := hB2.trans (st.bel.mono hB2.size)
  obtain ⟨ca, cn, cc, rfl⟩ := st.crow.form'
  obtain ⟨sa, sn, sc, rfl⟩ := st.srow.form'
  go_wp2_with fail
  go_ret
  obtain ⟨fp', h3, h4, _⟩ := Own.fresh st.crow (Fresh.nil _ _)
  exact ⟨_, fp', rfl, by rw [HM.out]; exact h3, h4.mono hB2.size, hB3⟩
theorem zdv (s : Sg) (es : List Eqn) (a b : Tm) (vs ua ub : List Value) (v : Value) (f f' fa fb : List Nat) (w : World) (hbig : Tm.sizes (zk es ++ [a, b]) ≤ 1000000000) (hv : RdVs w s.cd vs f) (hx : Rd w (.sl (es.map Eqn.cd)) v f') (ha : RdVs w a.cd ua fa) (hb : RdVs w b.cd ub fb) :
  Calls Tryz.prog 47 #[.agg vs.toArray, v, .agg ua.toArray, .agg ub.toArray] w fun e w' => e = .returned (.bool (zC s es a b)) ∧ Below w.heap.size w w' := by
 obtain ⟨a0, c0, f0, rfl, _, m0⟩ := Sg.open hv
 obtain ⟨ea, ec, rfl, hc1, hc2⟩ := zc hx
 obtain ⟨xa, xc, xf, rfl, _, xs, xk⟩ := Tm.open ha
 obtain ⟨ya, yc, yf, rfl, _, ys, yk⟩ := Tm.open hb
 go_enter Tryz.func47, Tryz.ntmps47
 go_wp2_with fail
 have B3 := box3 (w := w) (wr := (((w.alloc (.cells #[.slice a0 s.syms.length c0] 25)).alloc (.cells #[.string a.name, .slice xa a.kids.length xc] 29)).alloc (.cells #[.string b.name, .slice ya b.kids.length yc] 29)).alloc (.cells #[.string a.name, .slice xa a.kids.length xc, .string b.name, .slice ya b.kids.length yc] 29)) (cs := #[.slice a0 s.syms.length c0]) (ds := #[.string a.name, .slice xa a.kids.length xc]) (es := #[.string b.name, .slice ya b.kids.length yc]) (T := 25) (U := 29) (V := 29) ((Below.refl _ _).alloc (by simp) _)
 obtain ⟨X, Y, Z, _, _, hz, hB⟩ := B3
 have X0 := X 0
 have Y0 := Y 0
 have Y1 := Y 1
 have Z0 := Z 0
 have Z1 := Z 1
 simp only [zeF, zeD, zeE] at X0 Y0 Y1 Z0 Z1
 have R := zt (((w.alloc (.cells #[.slice a0 s.syms.length c0] 25)).alloc (.cells #[.string a.name, .slice xa a.kids.length xc] 29)).alloc (.cells #[.string b.name, .slice ya b.kids.length yc] 29)) #[.string a.name, .slice xa a.kids.length xc, .string b.name, .slice ya b.kids.length yc] 29
 simp only [World.size_alloc] at R
 generalize (((w.alloc (.cells #[.slice a0 s.syms.length c0] 25)).alloc (.cells #[.string a.name, .slice xa a.kids.length xc] 29)).alloc (.cells #[.string b.name, .slice ya b.kids.length yc] 29)).alloc (.cells #[.string a.name, .slice xa a.kids.length xc, .string b.name, .slice ya b.kids.length yc] 29) = W at *
 obtain ⟨fm, hm2⟩ := zcA (W := W) (a := a) (b := b) (g := w.heap.size + 1 + 1 + 1) (by exact ha.below hB) (by exact hb.below hB) (World.block_lt_of_cell? _ _ (R 0)) (fun j u hj => by rw [R j]; simpa using hj)
 clear X Y Z R
 refine (zcd s es [a, b] _ _ _ _ _ _ _ hbig (by exact hv.below hB) (by exact hx.below hB) (by exact hm2)).mono ?_
 rintro e w1 ⟨rfl, hb1⟩
 have hB1 := hB.trans (hb1.mono hB.size)
 have hms := hm2.below hb1
 have Y0' := za Y0 hb1
 have Y1' := za Y1 hb1
 have Z0' := za Z0 hb1
 have Z1' := za Z1 hb1
 clear hb1 Y0 Y1 Z0 Z1 X0 hz hm2
 cases hm : zQ s es [a, b]
 ·have HM : Hid (zC s es a b = false) := Lib.hid (by unfold zC; rw [hm]; rfl)
  clear hm
  go_wp2_with fail
  go_ret
  exact ⟨retB HM.out.symm, hB1⟩
 ·have HM : Hid (zC s es a b = (Clo.cl (cloC es [a, b]) (Tm.pos (zq es [a, b]) a) == Clo.cl (cloC es [a, b]) (Tm.pos (zq es [a, b]) b))) := Lib.hid (by unfold zC; rw [hm]; rfl)
  obtain ⟨hl12, hl24⟩ := zax hm
  clear hm
  go_wp2_with fail
  refine (zU es [a, b] _ _ _ _ _ hbig (hx.below hB1) hms).mono ?_
  rintro e w2 ⟨⟨rv, fp, rfl, hr, hf⟩, hb2⟩
  have hB2 := hB1.trans (hb2.mono hB1.size)
  change Rd w2 (.sl ((zq es [a, b]).map Tm.cd)) rv fp at hr
  have Y0 := za Y0' hb2
  have Y1 := za Y1' hb2
  have Z0 := za Z0' hb2
  have Z1 := za Z1' hb2
  clear hb2 Y0' Y1' Z0' Z1' hms
  obtain ⟨ra, rc, rfl, _, _⟩ := zc hr
  have hma : a ∈ zq es [a, b] := zR (List.mem_append_right _ (by simp))
  have hmb : b ∈ zq es [a, b] := zR (List.mem_append_right _ (by simp))
  have HO := Lib.hid (zaw es [a, b])
  have HG := Lib.hid (za5 es [a, b]).1
  have HE := Lib.hid (zab es [a, b])
  have HCC : Hid (cloC es [a, b] = (Clo.close (zq es [a, b]) es).1) := Lib.hid rfl
  generalize cloC es [a, b] = cc at HM HG HCC
  generalize zq es [a, b] = ps at *
  go_wp2_with fail
  refine (zbG ps es _ _ _ _ HO.out (by omega) (by omega) HE.out ⟨fp, hr⟩ (hx.below hB2)).mono ?_
  rintro e w3 ⟨sv, cv, rfl, st⟩
  rw [← HCC.out] at st
  have hB3 := hB2.trans (st.bel.mono hB2.size)
  have Y0' := za Y0 st.bel
  have Y1' := za Y1 st.bel
  have Z0' := za Z0 st.bel
  have Z1' := za Z1 st.bel
  have hpx := (Tm.pos_yes hma).1
  have hpy := (Tm.pos_yes hmb).1
  obtain ⟨g, cp, rfl, hgB, hgw, hcp⟩ := st.crow.form (by rw [zm, HG.out]; omega)
  rw [zm] at st hcp ⊢
  have ca := (st.crow.cell (k := Tm.pos ps a) (by rw [zm, HG.out]; exact hpx)).1
  have cb := (st.crow.cell (k := Tm.pos ps b) (by rw [zm, HG.out]; exact hpy)).1
  rw [Clo.nats_get (by rw [HG.out]; exact hpx)] at ca
  rw [Clo.nats_get (by rw [HG.out]; exact hpy)] at cb
  have hcx : Tm.pos ps a < cc.length := by rw [HG.out]; exact hpx
  have hcy : Tm.pos ps b < cc.length := by rw [HG.out]; exact hpy
  obtain ⟨sa, sn, sc, rfl⟩ := st.srow.form'
  have hvw : TmsR w3 ps (.slice ra ps.length rc) := ⟨fp, hr.below st.bel⟩
  have hxw : TmR w3 a (.agg #[.string a.name, .slice xa a.kids.length xc]) := TmR.mk xs ⟨_, xk.below hB3⟩
  have hyw : TmR w3 b (.agg #[.string b.name, .slice ya b.kids.length yc]) := TmR.mk ys ⟨_, yk.below hB3⟩
  obtain ⟨r, hr0⟩ : ∃ r, r = (Clo.cl cc (Tm.pos ps a) == Clo.cl cc (Tm.pos ps b)) := ⟨_, rfl⟩
  have heb : (((Clo.cl cc (Tm.pos ps a) : Nat) : Int) == ((Clo.cl cc (Tm.pos ps b) : Nat) : Int)) = r := by
   rw [hr0, Bool.eq_iff_iff]; simp only [beq_iff_eq]; omega
  rw [← hr0] at HM
  clear hr0 st Y0 Y1 Z0 Z1 hr
  go_wp2_with fail
  have q0 := cell_regrown Y0'
  have q1 := cell_regrown Y1'
  have q2 := cell_regrown Z0'
  have q3 := cell_regrown Z1'
  have q4 := cell_regrown ca
  have q5 := cell_regrown cb
  refine wp_region_quiet_below (by kernel_rfl) (by kernel_rfl) ?_
  repeat (quiet_step (first
   | (with_reducible refine Calls.regrown_of (zD ps a _ _ _ HO.out hma (hvw.below (below_regrown _ _ _)) (hxw.below (below_regrown _ _ _))))
   | (with_reducible refine Calls.regrown_of (zD ps b _ _ _ HO.out hmb (hvw.below (below_regrown _ _ _)) (hyw.below (below_regrown _ _ _))))))
  refine wpQuiet_nil ?_
  intro w4 hw4
  obtain ⟨⟨dq, osq⟩, hw4⟩ := hw4
  have hb4 : Below w3.heap.size w3 w4 := hw4 ▸ below_regrown w3 dq osq
  clear hw4 q0 q1 q2 q3 q4 q5
  go_wp2_with fail
  go_ret
  exact ⟨retB HM.out.symm, hB3.trans (hb4.mono hB3.size)⟩
namespace Clo
theorem zbP {n : Nat} {c : List Nat} (h : Good n c) {a b i j : Nat} (hi : i < n) (hj : j < n) (he : cl c i = cl c j) : cl (join c a b) i = cl (join c a b) j := by
 rw [zar (by rw [h.1]; exact hi), zar (by rw [h.1]; exact hj), he]
theorem zc4 {n : Nat} {c : List Nat} (h : Good n c) {a b : Nat} (ha : a < n) (hb : b < n) : cl (join c a b) a = cl (join c a b) b := by
 rw [zar (by rw [h.1]; exact ha), zar (by rw [h.1]; exact hb)]
 unfold hi lo
 rcases Nat.le_total (cl c a) (cl c b) with h1 | h1
 ·rw [Nat.max_eq_right h1, Nat.min_eq_left h1]
  by_cases h2 : cl c a = cl c b
  ·rw [if_pos h2, if_pos rfl]
  ·rw [if_neg h2, if_pos rfl]
 ·rw [Nat.max_eq_left h1, Nat.min_eq_right h1]
  by_cases h2 : cl c b = cl c a
  ·rw [if_pos rfl, if_pos h2]
  ·rw [if_pos rfl, if_neg h2]
/-- The steps that a run of the closure has made, and the classes behind them. -/
structure Made (n : Nat) (c : List Nat) (st : List Stp) : Prop where
 good : Good n c
 count : roots n c + st.length = n
 step : ∀ s ∈ st, ∃ a b : Nat, s.a = a ∧ s.b = b ∧ a ≠ b ∧ a < n ∧ b < n ∧ cl c a = cl c b
theorem Made.start (n : Nat) : Made n (List.range n) [] := ⟨Good.start n, by rw [zdm]; simp, by simp⟩
theorem Made.join {n : Nat} {c : List Nat} {st : List Stp} (h : Made n c st) {a b : Nat} {g : Int} (ha : a < n) (hb : b < n) (hne : cl c a ≠ cl c b) : Made n (Clo.join c a b) (st ++ [⟨a, b, g⟩]) := by
 refine ⟨h.good.join ha hb, ?_, fun s hs => ?_⟩
 ·have := zbg h.good ha hb hne
  have := h.count
  simp only [zeK, List.length_cons, List.length_nil]; omega
 ·rcases zeI.1 hs with hs | hs
  ·obtain ⟨x, y, h1, h2, h3, h4, h5, h6⟩ := h.step s hs
   exact ⟨x, y, h1, h2, h3, h4, h5, zbP h.good h4 h5 h6⟩
  ·obtain rfl := List.mem_singleton.1 hs
   exact ⟨a, b, rfl, rfl, fun e => hne (by rw [e]), ha, hb, zc4 h.good ha hb⟩
/-- Two parts are in one class. -/
def One (c : List Nat) (i j : Nat) : Prop := cl c i = cl c j
theorem zbm {ps : List Tm} : ∀ (es : List Eqn) (m : Nat) (c : List Nat) (st : List Stp), (∀ e ∈ es, e.a ∈ ps ∧ e.b ∈ ps) → Made ps.length c st →
  Made ps.length (given ps es m c st).1 (given ps es m c st).2 ∧ (∀ i j, i < ps.length → j < ps.length → One c i j → One (given ps es m c st).1 i j) ∧ ∀ e ∈ es, One (given ps es m c st).1 (Tm.pos ps e.a) (Tm.pos ps e.b)
 | [], m, c, st, _, h => ⟨h, fun _ _ _ _ h => h, by simp⟩
 | e :: es, m, c, st, hin, h => by
  have h1 := hin e (by simp)
  have hpa := (Tm.pos_yes h1.1).1
  have hpb := (Tm.pos_yes h1.2).1
  have h2 : ∀ x ∈ es, x.a ∈ ps ∧ x.b ∈ ps := fun x hx => hin x (by simp [hx])
  unfold given
  split
  ·rename_i heq
   obtain ⟨q1, q2, q3⟩ := zbm es (m + 1) c st h2 h
   refine ⟨q1, q2, fun x hx => ?_⟩
   rcases zeM.1 hx with rfl | hx
   ·exact q2 _ _ hpa hpb heq
   ·exact q3 x hx
  ·rename_i hne
   obtain ⟨q1, q2, q3⟩ := zbm es (m + 1) (join c (Tm.pos ps e.a) (Tm.pos ps e.b)) (st ++ [⟨Tm.pos ps e.a, Tm.pos ps e.b, m⟩]) h2 (h.join hpa hpb hne)
   refine ⟨q1, fun i j hi hj he => q2 i j hi hj (zbP h.good hi hj he), fun x hx => ?_⟩
   rcases zeM.1 hx with rfl | hx
   ·exact q2 _ _ hpa hpb (zc4 h.good hpa hpb)
   ·exact q3 x hx
theorem zeh {ps : List Tm} {c : List Nat} (h : ps.length = 0) : next ps c = none := by unfold next; rw [h]; rfl
theorem zdS {ps : List Tm} : ∀ (f : Nat) (c : List Nat) (st : List Stp), roots ps.length c ≤ f → Made ps.length c st →
  Made ps.length (run ps f c st).1 (run ps f c st).2 ∧ (∀ i j, i < ps.length → j < ps.length → One c i j → One (run ps f c st).1 i j) ∧ next ps (run ps f c st).1 = none
 | 0, c, st, hf, h => by
  refine ⟨h, fun _ _ _ _ h => h, ?_⟩
  rcases Nat.eq_zero_or_pos ps.length with h0 | h0
  ·exact zeh h0
  ·have := roots_pos h.good h0; omega
 | f + 1, c, st, hf, h => by
  unfold run
  cases hn : next ps c with
  | none => exact ⟨h, fun _ _ _ _ h => h, hn⟩
  | some p =>
   obtain ⟨k, i⟩ := p
   obtain ⟨h1, h2, h3⟩ := next_spec hn
   have hne := bad_ne h3
   have hr := zbg h.good (by omega : k < ps.length) h2 hne
   obtain ⟨q1, q2, q3⟩ := zdS f (join c k i) (st ++ [⟨k, i, -1⟩]) (by omega) (h.join (by omega) h2 hne)
   exact ⟨q1, fun x y hx hy he => q2 x y hx hy (zbP h.good hx hy he), q3⟩
/-- The closure: made of steps, with the given equations, and with no pair left. -/
theorem close_made {ps : List Tm} {es : List Eqn} (hin : ∀ e ∈ es, e.a ∈ ps ∧ e.b ∈ ps) :
  Made ps.length (close ps es).1 (close ps es).2 ∧ (∀ e ∈ es, One (close ps es).1 (Tm.pos ps e.a) (Tm.pos ps e.b)) ∧ next ps (close ps es).1 = none := by
 obtain ⟨g1, g2, g3⟩ := zbm es 0 (List.range ps.length) [] hin (Made.start _)
 obtain ⟨r1, r2, r3⟩ := zdS ps.length _ _ (roots_le _ _) g1
 rw [close_eq]
 exact ⟨r1, fun e he => r2 _ _ (Tm.pos_yes (hin e he).1).1 (Tm.pos_yes (hin e he).2).1 (g3 e he), r3⟩
/-- No pair is left: what is alike is in one class. -/
theorem none_alike {ps : List Tm} {c : List Nat} (h : next ps c = none) {k i : Nat} (hk : k < i) (hi : i < ps.length) (ha : alikeB ps c (ps[k]'(by omega)) ps[i] = true) : One c k i := by
 unfold next at h
 rw [List.findSome?_eq_none_iff] at h
 have h1 := h i (List.mem_range.2 hi)
 rw [Option.map_eq_none_iff, List.find?_eq_none] at h1
 have h2 := h1 k (List.mem_range.2 hk)
 unfold badB at h2
 rw [List.getElem?_eq_getElem (by omega), List.getElem?_eq_getElem hi] at h2
 simp only [ha, Bool.and_true, bne_iff_ne, ne_eq, Decidable.not_not] at h2
 exact h2
end Clo
end Go.Proofs.YtlefdhhnlbpbkaaGreat
end
