/- Parts of the proof: Eqs2. -/
import Derived.Test.YtlefdhhnlbpbkaaGreatPv13
section
namespace Go.Proofs.YtlefdhhnlbpbkaaGreat
open Go Go.RowKit
set_option linter.unusedVariables false
set_option linter.unusedSimpArgs false
set_option maxRecDepth 100000
set_option maxHeartbeats 16000000
def AllOk (s : Sg) (es : List Eqn) (k : Nat) : Prop := ∀ j, j < k → ∀ (hj : j < es.length), es[j].okB s = true
theorem AllOk.succ {s : Sg} {es : List Eqn} {k : Nat} (h : AllOk s es k) (hk : k < es.length) (h' : es[k].okB s = true) : AllOk s es (k + 1) := fun j hj hl => by
 rcases Nat.lt_or_ge j k with h1 | h1
 ·exact h j h1 hl
 ·obtain rfl : j = k := by omega
  exact h'
theorem zdj {s : Sg} {es : List Eqn} {k : Nat} (hk : es.length ≤ k) (h : AllOk s es k) : Tm.parts (zj es) = Tm.addPs [] (zj es) := by
 unfold Tm.parts; rw [if_pos (zdC hk h)]
theorem zbz (s : Sg) (es : List Eqn) (vs : List Value) (v : Value) (f f' : List Nat) (w : World) (hbig : Tm.sizes (zj es) ≤ 1000000000) (hbig2 : es.length ≤ 1048576) (hv : RdVs w s.cd vs f) (hx : Rd w (.sl (es.map Eqn.cd)) v f') :
  Calls Tryz.prog 17 #[.agg vs.toArray, v] w fun e w' => e = .returned (.bool (eqsB s es)) ∧ Below w.heap.size w w' := by
 obtain ⟨a0, c0, f0, rfl, _, m0⟩ := Sg.open hv
 obtain ⟨a, cap, rfl, hc1, hc2⟩ := zd hx
 go_enter Tryz.func17, Tryz.ntmps17
 go_wp2_with fail
 refine (zcN s _ _ _ (by exact hv.below (zb _ _))).mono ?_
 rintro e w1 ⟨rfl, hb1⟩
 obtain ⟨hxL, hzL, hBL⟩ := box1 (w := w) (wr := w1) (cs := #[.slice a0 s.syms.length c0]) (T := 25) (zK hb1 (by simp))
 have cx := hxL 0
 simp only [zeo, zem, zen] at cx
 clear hxL hb1
 cases h1 : s.okB
 ·have HF := Lib.hid (eqsB_sig (es := es) h1)
  clear h1
  go_wp2_with fail
  go_ret
  exact ⟨retB HF.out.symm, hBL⟩
 have H1 := Lib.hid h1
 clear h1
 by_cases h2 : es.length ≤ 12
 rotate_left
 ·have HF := Lib.hid (zdB (s := s) h2)
  have t2 : decide ((12 : Int) < (es.length : Int)) = true := by simp; omega
  go_wp2_with fail
  go_ret
  exact ⟨retB HF.out.symm, hBL⟩
 have t2 : decide ((12 : Int) < (es.length : Int)) = false := by simp; omega
 go_wp2_with fail
 go_loopw [17] (fun i wq => ∃ k : Nat, k ≤ es.length ∧ i = .int .i64 k ∧ Hid (AllOk s es k) ∧ Below w1.heap.size w1 wq) (fun i _ => es.length - (intOf i).toNat)
 case atStart => exact ⟨0, Nat.zero_le _, rfl, Lib.hid (fun j hj => by omega), Below.refl _ _⟩
 case round =>
  obtain ⟨k, hkl, rfl, hall, hM⟩ := hrel
  have hszm := hM.size
  have cxm := za cx hM
  have hBM := hBL.trans (hM.mono (by omega))
  by_cases hlt : k < es.length
  ·obtain ⟨b, off, rfl, hbs, _⟩ := zm hx (by omega)
   have hbz : b < wr.heap.size := by omega
   have hz3 : w.heap.size < wr.heap.size := by omega
   obtain ⟨b1, e1, g1, b3, e3, g3, d0, d1, d2, d3, t0, t1, t3, t4, _⟩ := Eqn.at (hx.below hBM) hlt
   have hbk := zb wr (.cells #[.string es[k].a.name, .slice b1 es[k].a.kids.length e1, .string es[k].b.name, .slice b3 es[k].b.kids.length e3] 36)
   have hzk : wr.heap.size ≤ (wr.alloc (.cells #[.string es[k].a.name, .slice b1 es[k].a.kids.length e1, .string es[k].b.name, .slice b3 es[k].b.kids.length e3] 36)).heap.size := hbk.size
   go_wp2_with fail
   refine (zdY s es[k] _ _ _ _ _ (by exact (Eqn.close t0 t1 t3 t4).below hbk) (by exact hv.below (hBM.trans (hbk.mono hBM.size)))).mono ?_
   rintro e w4 ⟨rfl, hb4⟩
   have hb5 := hbk.trans (hb4.mono hzk)
   have hM5 := hM.trans (hb5.mono hszm)
   have hB5 := hBM.trans (hb5.mono hBM.size)
   clear hb4 hbk hzk
   cases ho : es[k].okB s
   ·have HF := Lib.hid (zbn hlt ho)
    clear ho
    go_wp2_with fail
    go_ret
    exact ⟨retB HF.out.symm, hB5⟩
   ·have HE := Lib.hid (hall.out.succ hlt ho)
    clear ho
    go_wp2_with fail
    go_roundw
    case rel => exact ⟨k + 1, by omega, by go_num, HE, hM5⟩
    case measure => simp [intOf]; omega
  ·have HF := Lib.hid (eqsB_all H1.out h2 (by omega) hall.out)
   have HP := Lib.hid (zdj (by omega) hall.out)
   go_wp2_with fail
   refine (sides_any es _ _ _ hbig2 (hx.below hBM)).mono ?_
   rintro e w4 ⟨⟨rv, rf, rfl, hr⟩, hb4⟩
   have hB4 := hBM.trans (hb4.mono hBM.size)
   go_wp2_with fail
   refine (zcu (zj es) _ _ hbig ⟨rf, hr⟩).mono ?_
   rintro e w5 ⟨pv, pf, rfl, hp, _, hb5⟩
   have hB5 := hB4.trans (hb5.mono hB4.size)
   rw [HP.out] at hp
   obtain ⟨pa, pc, rfl, hl1, hl2⟩ := zd hp
   clear hb4 hb5
   go_wp2_with fail
   go_ret
   exact ⟨retB (by rw [HF.out]; simp; try omega), hB5⟩
theorem zdk (es : List Eqn) (k : Nat) (h : k < es.length) : Tm.addPs [] (zj (es.take (k + 1))) = Tm.addP (Tm.addP (Tm.addPs [] (zj (es.take k))) es[k].a) es[k].b := by
 rw [zaU es k h, Tm.addPs_append]; simp [Tm.addPs]
theorem ta_kids {av : Option Nat} {w w' : World} {t : Tm} {n : ByteArray} {kv : Value} (h : TmRa av w t (.agg #[.string n, kv])) (hb : Below w.heap.size w w') : TmsRa av w' t.kids kv := by
 obtain ⟨kv', h1, h2, h3⟩ := h
 simp only [Value.agg.injEq, Array.mk.injEq, List.cons.injEq, and_true] at h1
 obtain ⟨_, rfl⟩ := h1
 exact h3.below hb
theorem addP_len1 (l : List Tm) (t : Tm) : (Tm.addP l t).length ≤ l.length + t.size := by
 have := Tm.addPs_len [t] l
 simp only [Tm.addPs, Tm.sizes] at this
 omega
theorem zO (es : List Eqn) (ms : List Tm) (v v2 : Value) (f f2 : List Nat) (w : World) (hbig : Tm.sizes (zj es ++ ms) ≤ 1000000000) (hv : Rd w (.sl (es.map Eqn.cd)) v f) (hv2 : Rd w (.sl (ms.map Tm.cd)) v2 f2) :
  Calls Tryz.prog 44 #[v, v2] w fun e w' => (∃ rv fp, e = .returned rv ∧ Rd w' (.sl ((Tm.addPs [] (zj es ++ ms)).map Tm.cd)) rv fp ∧ Fresh w.heap.size w' fp) ∧ Below w.heap.size w w' := by
 obtain ⟨a, cap, rfl, hc1, hc2⟩ := zd hv
 obtain ⟨a2, cap2, rfl, hc12, hc22⟩ := zd hv2
 have hfl := hv.lt _
 have hfl2 := hv2.lt _
 rw [Tm.sizes_append] at hbig
 go_enter Tryz.func44, Tryz.ntmps44
 go_wp2_with fail
 go_loopw [5, 6] (fun ov i wr => ∃ (k : Nat) (fp : List Nat), k ≤ es.length ∧ i = .int .i64 k ∧ Own wr w.heap.size 29 2 ov ((Tm.addPs [] (zj (es.take k))).map Tm.cd) fp ∧ Fresh w.heap.size wr fp ∧ Below w.heap.size w wr) (fun _ i _ => es.length - (intOf i).toNat)
 case atStart => exact ⟨0, [], Nat.zero_le _, rfl, Own.empty _ _ _ _ (Nat.le_refl _), Fresh.nil _ _, zb _ _⟩
 case round =>
  obtain ⟨k, fp, hkl, rfl, hown, hfr, hb⟩ := hrel
  have hz := hb.size
  by_cases hlt : k < es.length
  ·obtain ⟨b, off, rfl, hbs, hbf⟩ := zm hv (by omega)
   have hbz : b < wr.heap.size := by omega
   obtain ⟨b1, e1, g1, b3, e3, g3, d0', d1', d2', d3', t0, t1, t2, t3, hsub⟩ := Eqn.at hv hlt
   have d0 := za d0' hb
   have d1 := za d1' hb
   have d2 := za d2' hb
   have d3 := za d3' hb
   have hln := Tm.addPs_len (zj (es.take k)) []
   simp only [List.length_nil, Nat.zero_add] at hln
   have hsz : Tm.sizes (zj (es.take (k + 1))) ≤ Tm.sizes (zj es) := by
    have h1 : zj es = zj (es.take (k + 1)) ++ zj (es.drop (k + 1)) := by
     rw [zj, zj, zj, ← List.flatMap_append, List.take_append_drop]
    rw [h1, Tm.sizes_append]; omega
   have hsz2 : Tm.sizes (zj (es.take (k + 1))) = Tm.sizes (zj (es.take k)) + (es[k].a.size + (es[k].b.size + 0)) := by rw [zaU es k hlt, Tm.sizes_append]; rfl
   rw [hsz2] at hsz
   clear hsz2
   have hla := addP_len1 (Tm.addPs [] (zj (es.take k))) es[k].a
   have ta : TmRa u5.ownBlock wr es[k].a (.agg #[.string es[k].a.name, .slice b1 es[k].a.kids.length e1]) := TmRa.mk t0 ⟨g1, t1.below hb, fun x hx e => by
    have h1 := (hown.block e).1
    have h2 := hfl x (hsub x (by simp [hx]))
    omega⟩
   have tb : TmsRa u5.ownBlock wr es[k].b.kids (.slice b3 es[k].b.kids.length e3) := ⟨g3, t3.below hb, fun x hx e => by
    have h1 := (hown.block e).1
    have h2 := hfl x (hsub x (by simp [hx]))
    omega⟩
   have hnb : u5.ownBlock ≠ some b := hown.row_ne hbs
   have HSUC := Lib.hid (zdk es k hlt)
   go_wp2_with fail
   go_region_held3 (fun W => W.cell? ⟨b, off + k * 4, none⟩ = some (.string es[k].a.name) ∧ W.cell? ⟨b, off + k * 4 + 1, none⟩ = some (.slice b1 es[k].a.kids.length e1) ∧ W.cell? ⟨b, off + k * 4 + 2, none⟩ = some (.string es[k].b.name) ∧ W.cell? ⟨b, off + k * 4 + 3, none⟩ = some (.slice b3 es[k].b.kids.length e3))
    (first | exact ⟨d0, d1, d2, d3⟩ | exact ⟨zo hm1.1 d0 hnb, zo hm1.1 d1 hnb, zo hm1.1 d2 hnb, zo hm1.1 d3 hnb⟩ | exact ⟨zo hm2.1 (zo hm1.1 d0 hnb) (hown1.row_ne hbs), zo hm2.1 (zo hm1.1 d1 hnb) (hown1.row_ne hbs), zo hm2.1 (zo hm1.1 d2 hnb) (hown1.row_ne hbs), zo hm2.1 (zo hm1.1 d3 hnb) (hown1.row_ne hbs)⟩)
    (first
     | (go_at_call 69; (with_reducible refine (zaT _ es[k].a (Tm.addPs [] (zj (es.take k))) _ _ fp w.heap.size _ (Nat.le_refl _) (by omega) (by exact (Nat.le_trans hz (zi _).size)) (by exact hown.below (zi _)) (by exact hfr.below (zi _)) (by exact TmRa.mk t0 (ta_kids ta (zi _)))).mono ?_); rintro e w2 ⟨lv2, fp2, rfl, hown1, hfr1, hm1⟩)
     | (go_at_call 69; (with_reducible refine (zaT _ es[k].b (Tm.addP (Tm.addPs [] (zj (es.take k))) es[k].a) _ _ fp2 w.heap.size _ (Nat.le_refl _) (by omega) (by exact (Nat.le_trans (Nat.le_trans hz (zi _).size) hm1.size)) (by exact hown1) (by exact hfr1) (by exact TmRa.mk t2 ((tb.below (zi _)).moved hm1))).mono ?_); rintro e w3 ⟨lv3, fp3, rfl, hown2, hfr2, hm2⟩))
   have hm := (hm1.trans hm2)
   have hB3 := hb.trans (zbe (hm.toBelow (B := w.heap.size) (Nat.le_trans hz (zi _).size) (fun q hq => (hown.block hq).1)))
   go_wp2_with fail
   go_roundw
   case rel =>
    refine ⟨k + 1, fp3, by omega, by go_num, ?_, hfr2, ?_⟩
    ·rw [HSUC.out]; exact hown2
    ·exact hB3
   case measure => simp [intOf]; omega
  ·have he : es.take k = es := List.take_of_length_le (by omega)
   rw [he] at hown
   clear he
   have hlp := Tm.addPs_len (zj es) []
   simp only [List.length_nil, Nat.zero_add] at hlp
   go_wp2_with fail
   go_loopw [5, 7] (fun ov i wq => ∃ (k : Nat) (fp : List Nat), k ≤ ms.length ∧ i = .int .i64 k ∧ Own wq w.heap.size 29 2 ov ((Tm.addPs (Tm.addPs [] (zj es)) (ms.take k)).map Tm.cd) fp ∧ Fresh w.heap.size wq fp ∧ Below w.heap.size w wq) (fun _ i _ => ms.length - (intOf i).toNat)
   case atStart => exact ⟨0, fp, Nat.zero_le _, rfl, by simpa [Tm.addPs] using hown, hfr, hb⟩
   case round =>
    clear hown hfr hb hz
    obtain ⟨k, fp, hkl, rfl, hown, hfr, hb⟩ := hrel
    have hz := hb.size
    by_cases hlt : k < ms.length
    ·obtain ⟨b, off, rfl, hbs, hbf⟩ := zm hv2 (by omega)
     have hbz : b < wr.heap.size := by omega
     obtain ⟨b1, e1, g1, d0', d1', t0, t1, hsub⟩ := Tm.at hv2 hlt
     have d0 := za d0' hb
     have d1 := za d1' hb
     have hln := Tm.addPs_len (ms.take k) (Tm.addPs [] (zj es))
     have hst := Tm.sizes_take ms (k + 1)
     rw [zeq hlt, Tm.sizes_append] at hst
     simp only [Tm.sizes] at hst
     have ta : TmRa u5.ownBlock wr ms[k] (.agg #[.string ms[k].name, .slice b1 ms[k].kids.length e1]) := TmRa.mk t0 ⟨g1, t1.below hb, fun x hx e => by
      have h1 := (hown.block e).1
      have h2 := hfl2 x (hsub x (by simp [hx]))
      omega⟩
     have HSUC := Lib.hid (Tm.addPs_succ (Tm.addPs [] (zj es)) ms k hlt)
     go_wp2_with fail
     refine (zaT _ ms[k] (Tm.addPs (Tm.addPs [] (zj es)) (ms.take k)) _ _ fp w.heap.size _ (Nat.le_refl _) (by omega) hz hown hfr ta).mono ?_
     rintro e w3 ⟨lv, fp3, rfl, hown2, hfr2, hm⟩
     have hB3 := hb.trans (hm.toBelow (B := w.heap.size) hz (fun q hq => (hown.block hq).1))
     go_wp2_with fail
     go_roundw
     case rel =>
      refine ⟨k + 1, fp3, by omega, by go_num, ?_, hfr2, hB3⟩
      rw [HSUC.out]; exact hown2
     case measure => simp [intOf]; omega
    ·have he : ms.take k = ms := List.take_of_length_le (by omega)
     rw [he] at hown
     have HE := Lib.hid (Tm.addPs_append [] (zj es) ms)
     clear he
     obtain ⟨oa, on, oc, rfl⟩ := hown.form'
     obtain ⟨fp', hr, hf, _⟩ := hown.fresh hfr
     go_wp2_with fail
     go_ret
     exact ⟨⟨_, fp', rfl, by rw [HE.out]; exact hr, hf⟩, hb⟩
theorem eqsB_all2 {s : Sg} {es : List Eqn} {k : Nat} (hk : es.length ≤ k) (h : AllOk s es k) : es.all (Eqn.okB s) = true := by
 rw [List.all_eq_true]; intro e he
 obtain ⟨j, hj, rfl⟩ := List.getElem_of_mem he
 exact h j (by omega) hj
theorem eqsB_rest {s : Sg} {es : List Eqn} {k : Nat} (hk : es.length ≤ k) (h : AllOk s es k) : eqsB s es = (s.okB && (decide (es.length ≤ 12) && decide ((Tm.addPs [] (zj es)).length ≤ 24))) := by
 rw [eqsB, eqsB_all2 hk h, Bool.true_and]
theorem Tm.sizes_mem2 : ∀ (es : List Eqn), ∀ e ∈ es, e.a.size ≤ Tm.sizes (zj es) ∧ e.b.size ≤ Tm.sizes (zj es) := fun es e he =>
 ⟨Tm.size_mem (List.mem_flatMap.2 ⟨e, he, by simp⟩), Tm.size_mem (List.mem_flatMap.2 ⟨e, he, by simp⟩)⟩
theorem za8 (s : Sg) (es : List Eqn) (vs : List Value) (v : Value) (f f' : List Nat) (w : World) (hbig : Tm.sizes (zj es) ≤ 1000000000) (hv : RdVs w s.cd vs f) (hx : Rd w (.sl (es.map Eqn.cd)) v f') :
  Calls Tryz.prog 18 #[.agg vs.toArray, v] w fun e w' => e = .returned (.bool (eqsB s es)) ∧ Below w.heap.size w w' := by
 obtain ⟨a0, c0, f0, rfl, _, m0⟩ := Sg.open hv
 obtain ⟨a, cap, rfl, hc1, hc2⟩ := zd hx
 have hsz1 := Tm.sizes_mem2 es
 go_enter Tryz.func18, Tryz.ntmps18
 go_wp2_with fail
 go_loopw [5] (fun i wq => ∃ k : Nat, k ≤ es.length ∧ i = .int .i64 k ∧ Hid (AllOk s es k) ∧ wq.cell? ⟨w.heap.size, 0, none⟩ = some (.slice a0 s.syms.length c0) ∧ w.heap.size < wq.heap.size ∧ Below w.heap.size w wq) (fun i _ => es.length - (intOf i).toNat)
 case atStart => exact ⟨0, Nat.zero_le _, rfl, Lib.hid (fun j hj => by omega), by simp, by simp, zb _ _⟩
 case round =>
  obtain ⟨k, hkl, rfl, hall, cx, hz3, hBM⟩ := hrel
  by_cases hlt : k < es.length
  ·obtain ⟨b, off, rfl, hbs, _⟩ := zm hx (by omega)
   have hbz : b < wr.heap.size := by omega
   obtain ⟨b1, e1, g1, b3, e3, g3, d0, d1, d2, d3, t0, t1, t2, t3, _⟩ := Eqn.at (hx.below hBM) hlt
   have hvM := hv.below hBM
   have ha1 := hsz1 es[k] (zes hlt)
   go_wp2_with fail
   go_region_held3 (fun W => W.cell? ⟨w.heap.size, 0, none⟩ = some (.slice a0 s.syms.length c0) ∧ W.cell? ⟨b, off + k * 4, none⟩ = some (.string es[k].a.name) ∧ W.cell? ⟨b, off + k * 4 + 1, none⟩ = some (.slice b1 es[k].a.kids.length e1))
    (first | exact ⟨cx, d0, d1⟩ | exact ⟨za cx (zh hb4), za d0 (zh hb4), za d1 (zh hb4)⟩)
    (first | (go_at_call 42; (with_reducible refine (zaf s es[k].a (by omega) _ _ _ _ _ (by exact hvM.below (zi _)) (by exact (Tm.rdv t0 t1).below (zi _))).mono ?_); rintro e w4 ⟨rfl, hb4⟩))
   have hB4 := hBM.trans ((zh hb4).mono hBM.size)
   have hz4 := (zh hb4).size
   have cx4 := za cx (zh hb4)
   have e2 := za d2 (zh hb4)
   have e3' := za d3 (zh hb4)
   have hz5 : w.heap.size < w4.heap.size := by omega
   have hbz5 : b < w4.heap.size := by omega
   have hv4 := hv.below hB4
   have t24 := (Tm.rdv t2 t3).below (zh hb4)
   clear hb4 d0 d1 d2 d3 cx
   have H1 : Hid (∃ o, es[k].a.tsrt s = o) := Lib.hid ⟨_, rfl⟩
   obtain ⟨o1, ho1⟩ := H1.out
   have HO1 := Lib.hid ho1
   rw [ho1]
   clear ho1 H1
   go_wp2_with fail
   go_region_held3 (fun W => W.cell? ⟨w.heap.size, 0, none⟩ = some (.slice a0 s.syms.length c0) ∧ W.cell? ⟨b, off + k * 4 + 2, none⟩ = some (.string es[k].b.name) ∧ W.cell? ⟨b, off + k * 4 + 3, none⟩ = some (.slice b3 es[k].b.kids.length e3))
    (first | exact ⟨cx4, e2, e3'⟩ | exact ⟨za cx4 (zh hb5), za e2 (zh hb5), za e3' (zh hb5)⟩)
    (first | (go_at_call 42; (with_reducible refine (zaf s es[k].b (by omega) _ _ _ _ _ (by exact hv4.below (zi _)) (by exact t24.below (zi _))).mono ?_); rintro e w5 ⟨rfl, hb5⟩))
   have hB5 := hB4.trans ((zh hb5).mono hB4.size)
   have hz6 := (zh hb5).size
   have cx5 := za cx4 (zh hb5)
   have hz7 : w.heap.size < w5.heap.size := by omega
   clear hb5 e2 e3' cx4
   cases o1 with
   | none =>
    have HF := Lib.hid (zbn hlt (Eqn.okB_a HO1.out))
    simp only [Option.getD_none, Option.isSome_none]
    go_wp2_with fail
    go_ret
    exact ⟨retB HF.out.symm, hB5⟩
   | some m =>
    simp only [Option.getD_some, Option.isSome_some]
    cases ho2 : es[k].b.tsrt s with
    | none =>
     have HF := Lib.hid (zbn hlt (Eqn.okB_b ho2))
     clear ho2
     simp only [Option.getD_none, Option.isSome_none]
     go_wp2_with fail
     go_ret
     exact ⟨retB HF.out.symm, hB5⟩
    | some n =>
     have HF := Lib.hid (Eqn.okB_ab HO1.out ho2)
     clear ho2
     simp only [Option.getD_some, Option.isSome_some]
     by_cases hmn : m = n
     ·subst hmn
      have HE := Lib.hid (hall.out.succ hlt (by rw [HF.out]; simp))
      have hnb : (m != m) = false := by simp
      go_wp2_with fail
      go_roundw
      case rel => exact ⟨k + 1, by omega, by go_num, HE, cx5, hz7, hB5⟩
      case measure => simp [intOf]; omega
     ·have HG := Lib.hid (zbn (s := s) hlt (by rw [HF.out]; simpa using hmn))
      have hnb : (m != n) = true := by simpa using hmn
      go_wp2_with fail
      go_ret
      exact ⟨retB HG.out.symm, hB5⟩
  ·have HF := Lib.hid (eqsB_rest (by omega) hall.out)
   have hlp := Tm.addPs_len (zj es) []
   simp only [List.length_nil, Nat.zero_add] at hlp
   go_wp2_with fail
   refine (zb1 s _ _ _ (hv.below hBM)).mono ?_
   rintro e w4 ⟨rfl, hb4⟩
   have hB4 := hBM.trans (hb4.mono hBM.size)
   clear hb4
   cases h1 : s.okB
   ·have HG : Hid (eqsB s es = false) := Lib.hid (by rw [HF.out, h1]; rfl)
    clear h1
    go_wp2_with fail
    go_ret
    exact ⟨retB HG.out.symm, hB4⟩
   by_cases h2 : es.length ≤ 12
   rotate_left
   ·have HG : Hid (eqsB s es = false) := Lib.hid (zdB h2)
    have t2 : decide ((es.length : Int) ≤ (12 : Int)) = false := by simp; omega
    clear h1
    go_wp2_with fail
    go_ret
    exact ⟨retB HG.out.symm, hB4⟩
   have t2 : decide ((es.length : Int) ≤ (12 : Int)) = true := by simp; omega
   have HG : Hid (eqsB s es = decide ((Tm.addPs [] (zj es)).length ≤ 24)) := Lib.hid (by rw [HF.out, h1, decide_eq_true h2]; rfl)
   clear h1
   go_wp2_with fail
   refine (zO es [] _ _ _ [] _ (by simpa using hbig) (hx.below hB4) (by simp only [List.map_nil, Rd]; exact ⟨none, 0, rfl, by simp, by simp [maxLen], by simp⟩)).mono ?_
   rintro e w5 ⟨⟨pv, pf, rfl, hp, _⟩, hb5⟩
   have hB5 := hB4.trans (hb5.mono hB4.size)
   rw [List.append_nil] at hp
   obtain ⟨pa, pc, rfl, hl1, hl2⟩ := zd hp
   clear hb5
   go_wp2_with fail
   go_ret
   exact ⟨retB (by rw [HG.out]; simp; try omega), hB5⟩
end Go.Proofs.YtlefdhhnlbpbkaaGreat
end
