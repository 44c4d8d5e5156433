/- Parts of the proof: CloX CloY. -/
import Derived.Test.YtlefdhhnlbpbkaaGreatPt40
import Derived.Test.YtlefdhhnlbpbkaaGreatPt32
import Derived.Test.YtlefdhhnlbpbkaaGreatPt33
import Derived.Test.YtlefdhhnlbpbkaaGreatPt6
section
namespace Go.Proofs.YtlefdhhnlbpbkaaGreat
open Go Go.RowKit
set_option linter.unusedVariables false
set_option linter.unusedSimpArgs false
set_option maxRecDepth 100000
set_option maxHeartbeats 16000000
def CloOut (s : Sg) (es : List Eqn) (ms : List Tm) (w : World) (e : Ending) (w' : World) : Prop :=
 Below w.heap.size w w' ∧ ((zQ s es ms = false ∧ e = .returned (.tuple #[.pointer none, .bool false])) ∨
  (zQ s es ms = true ∧ ∃ (cb : Nat) (pv cv sv : Value) (fp : List Nat), e = .returned (.tuple #[.pointer (some ⟨cb, 0, none⟩), .bool true]) ∧ CloAt w' cb pv (cloC es ms) (cloS es ms) cv sv ∧
   Rd w' (.sl ((zq es ms).map Tm.cd)) pv fp ∧ Fresh w.heap.size w' fp ∧ (∀ b ∈ fp, b < cb) ∧ w.heap.size ≤ cb))
theorem moreB_eqs {s : Sg} {es : List Eqn} {ms : List Tm} (h : eqsB s es = false) : zQ s es ms = false := by simp [zQ, h]
theorem eqsB_wf {s : Sg} {es : List Eqn} (h : eqsB s es = true) : (zk es).all Tm.wf = true := by
 simp only [eqsB, zeO, List.all_eq_true] at h
 exact zcy (s := s) (Nat.le_refl _) (fun j _ hj => h.2.2.1 _ (zeJ hj))
theorem tsrt_wf {s : Sg} {t : Tm} (h : (t.tsrt s).isSome = true) : t.wf = true := by
 cases hw : t.wf
 ·rw [Tm.tsrt_bad hw] at h; simp at h
 ·rfl
theorem zey {s : Sg} {es : List Eqn} {ms : List Tm} {k : Nat} (h : eqsB s es = true) (hk : ms.length ≤ k) (ha : AllSrt s ms k) : Tm.parts (zk es ++ ms) = zq es ms := by
 unfold Tm.parts zq
 rw [if_pos]
 rw [List.all_append, eqsB_wf h, Bool.true_and, List.all_eq_true]
 intro t ht
 obtain ⟨j, hj, rfl⟩ := List.getElem_of_mem ht
 exact tsrt_wf (ha j (by omega) hj)
theorem zbb (s : Sg) (es : List Eqn) (ms : List Tm) (vs : List Value) (v v2 : Value) (f f' f2 : List Nat) (w : World) (hbig : Tm.sizes (zk es ++ ms) ≤ 1000000000) (hbig2 : es.length ≤ 1048576) (hv : RdVs w s.cd vs f) (hx : Rd w (.sl (es.map Eqn.cd)) v f') (h2 : Rd w (.sl (ms.map Tm.cd)) v2 f2) :
  Calls Tryz.prog 33 #[.agg vs.toArray, v, v2] w (CloOut s es ms w) := by
 obtain ⟨a0, c0, f0, rfl, _, m0⟩ := Sg.open hv
 obtain ⟨a, cap, rfl, hc1, hc2⟩ := zc hx
 obtain ⟨a2, cap2, rfl, hc3, hc4⟩ := zc h2
 have hbs := hbig
 rw [Tm.sizes_append] at hbs
 have hml := Tm.sizes_len ms
 go_enter Tryz.func33, Tryz.ntmps33
 go_wp2_with fail
 refine (zbH s es _ _ _ _ _ (by omega) hbig2 (by exact hv.below (zb _ _)) (by exact hx.below (zb _ _))).mono ?_
 rintro e w1 ⟨rfl, hb1⟩
 obtain ⟨hxL, hzL, hBL⟩ := box1 (w := w) (wr := w1) (cs := #[.slice a0 s.syms.length c0]) (T := 25) (zW hb1 (by simp))
 have cx1 := hxL 0
 simp only [zeF, zeD, zeE] at cx1
 clear hxL hb1
 cases h1 : eqsB s es
 ·have HF := Lib.hid (moreB_eqs (ms := ms) h1)
  clear h1
  go_wp2_with fail
  go_ret2
  exact ⟨hBL, .inl ⟨HF.out, rfl⟩⟩
 have H1 := Lib.hid h1
 clear h1
 go_wp2_with fail
 go_loopw [19] (fun i wq => ∃ k : Nat, k ≤ ms.length ∧ i = .int .i64 k ∧ Hid (AllSrt s ms k) ∧ wq.cell? ⟨w.heap.size, 0, none⟩ = some (.slice a0 s.syms.length c0) ∧ w.heap.size < wq.heap.size ∧ Below w.heap.size w wq) (fun i _ => ms.length - (intOf i).toNat)
 case atStart => exact ⟨0, Nat.zero_le _, rfl, Lib.hid (fun j hj => by omega), cx1, by omega, hBL⟩
 case round =>
  clear cx1 hBL hzL
  obtain ⟨k, hkl, rfl, hall, cx, hz3, hBM⟩ := hrel
  by_cases hlt : k < ms.length
  ·obtain ⟨b, off, rfl, hbs2, _⟩ := zo h2 (by omega)
   have hbz : b < wr.heap.size := by omega
   obtain ⟨b1, e1, g1, d0, d1, t0, t1, _⟩ := Tm.at (h2.below hBM) hlt
   have hbk := zb wr (.cells #[.string ms[k].name, .slice b1 ms[k].kids.length e1] 29)
   have hBk := hBM.trans (hbk.mono hBM.size)
   go_wp2_with fail
   refine (zaD s ms[k] _ _ _ _ _ (by exact hv.below hBk) (by exact (Tm.rdv t0 t1).below hbk)).mono ?_
   rintro e w4 ⟨rfl, hb4⟩
   have hB4 := hBk.trans (hb4.mono hBk.size)
   have cx4 := za (za cx hbk) hb4
   have hz5 : w.heap.size < w4.heap.size := by have := hbk.size; have := hb4.size; omega
   clear hb4 d0 d1 cx hBk hbk
   cases ho : ms[k].tsrt s with
   | none =>
    have HF := Lib.hid (zdL (es := es) hlt (by rw [ho]; rfl))
    clear ho
    simp only [Option.getD_none, Option.isSome_none]
    go_wp2_with fail
    go_ret2
    exact ⟨hB4, .inl ⟨HF.out, rfl⟩⟩
   | some m =>
    have HE := Lib.hid (hall.out.succ hlt (by rw [ho]; rfl))
    clear ho
    simp only [Option.getD_some, Option.isSome_some]
    go_wp2_with fail
    go_roundw
    case rel => exact ⟨k + 1, by omega, by go_num, HE, cx4, hz5, hB4⟩
    case measure => simp [intOf]; omega
  ·have HF := Lib.hid (zcc (es := es) (by omega) hall.out)
   have HP := Lib.hid (zey H1.out (by omega) hall.out)
   have HG : Hid (zQ s es ms = decide ((zq es ms).length ≤ 24)) := Lib.hid (by rw [HF.out, H1.out]; rfl)
   have hlp := zcV es ms
   go_wp2_with fail
   refine (zb8 es _ _ _ hbig2 (hx.below hBM)).mono ?_
   rintro e w4 ⟨⟨rv, fp, rfl, hown, hfp⟩, hb4⟩
   have hB4 := hBM.trans (hb4.mono hBM.size)
   have hz4 := hb4.size
   have hsl : ((zk es).map Tm.cd).length = 2 * es.length := by rw [zeN, zbh]
   have hml2 : (ms.map Tm.cd).length = ms.length := by simp
   obtain ⟨ra, rn, rc, rfl⟩ := hown.form'
   clear hb4
   go_wp2_with (at_builtin; refine zJ zag rfl _ _ rfl wr.heap.size _ _ _ rfl hown (ms.map Tm.cd) _ f2 rfl (h2.below hB4) ?nk ?na ?bytes ?len ?base ?next)
   case nk => simp only [List.mem_map]; rintro x ⟨t, _, rfl⟩; exact Tm.cd_len t
   case na => intro b hb e; have := (hown.block e).1; have := h2.lt _ b hb; have := hBM.size; omega
   case bytes => rw [hsl, hml2]; omega
   case len => rw [hsl, hml2]; omega
   case base => omega
   case next =>
    intro v' w5 nfp hsub hown5 hg hv' hs5
    rw [← zeL] at hown5
    have hB5 := ze hB4 hg hB4.size (fun q hq => by have := (hown.block hq).1; have := hBM.size; omega)
    obtain ⟨fq, hrd5⟩ := hown5.rd'
    obtain ⟨ta, tn, tc, rfl⟩ := hown5.form'
    clear hown5 hown hs5 hg hv' hsl hml2
    go_wp2_with fail
    refine (za4 (zk es ++ ms) _ _ hbig ⟨fq, hrd5⟩).mono ?_
    rintro e w6 ⟨pv, pf, rfl, hp, hpf, hb6⟩
    rw [HP.out] at hp
    have hB6 := hB5.trans (hb6.mono hB5.size)
    have hpf' := hpf.mono hB5.size
    obtain ⟨pa, pc, rfl, _, _⟩ := zc hp
    clear hb6 hrd5 hpf
    by_cases h24 : (zq es ms).length ≤ 24
    rotate_left
    ·have h24b : decide ((24 : Int) < ((zq es ms).length : Int)) = true := by simp; omega
     have HN : Hid (zQ s es ms = false) := Lib.hid (by rw [HG.out]; exact decide_eq_false h24)
     go_wp2_with fail
     go_ret2
     exact ⟨hB6, .inl ⟨HN.out, rfl⟩⟩
    ·have h24b : decide ((24 : Int) < ((zq es ms).length : Int)) = false := by simp; omega
     have HN : Hid (zQ s es ms = true) := Lib.hid (by rw [HG.out]; exact decide_eq_true h24)
     have h12 := (zax HN.out).1
     go_wp2_with fail
     refine (zex (zq es ms) es _ _ _ _ (Lib.hid (zaw es ms)) (by omega) (by omega) (Lib.hid (zab es ms)) ⟨pf, hp⟩ (hx.below hB6)).mono ?_
     rintro e w7 ⟨rfl, cv, sv, st, hb7⟩
     go_wp2_with fail
     go_ret2
     exact ⟨hB6.trans (hb7.mono hB6.size), .inr ⟨HN.out, w6.heap.size, _, cv, sv, pf, rfl, st, hp.below hb7, hpf'.below hb7, fun b hb => hpf'.lt b hb, hB6.size⟩⟩
theorem zcN (s : Sg) (es : List Eqn) (ms : List Tm) (vs : List Value) (v v2 : Value) (f f' f2 : List Nat) (w : World) (hbig : Tm.sizes (zk es ++ ms) ≤ 1000000000) (hbig2 : es.length ≤ 1048576) (hv : RdVs w s.cd vs f) (hx : Rd w (.sl (es.map Eqn.cd)) v f') (h2 : Rd w (.sl (ms.map Tm.cd)) v2 f2) :
  Calls Tryz.prog 10 #[.agg vs.toArray, v, v2] w fun e w' => ∃ pv sv fp fs, e = .returned (.tuple #[pv, sv]) ∧ Rd w' (.sl ((zbM s es ms).1.map Tm.cd)) pv fp ∧ Rd w' (.sl ((zbM s es ms).2.map Stp.cd)) sv fs ∧ Fresh w.heap.size w' (fp ++ fs) ∧ Below w.heap.size w w' := by
 obtain ⟨a0, c0, f0, rfl, _, m0⟩ := Sg.open hv
 obtain ⟨a, cap, rfl, hc1, hc2⟩ := zc hx
 obtain ⟨a2, cap2, rfl, hc3, hc4⟩ := zc h2
 have hb0 := zb w (.cells #[.slice a0 s.syms.length c0] 25)
 go_enter Tryz.func10, Tryz.ntmps10
 go_wp2_with fail
 refine (zbb s es ms _ _ _ _ _ _ _ hbig hbig2 (by exact hv.below hb0) (by exact hx.below hb0) (by exact h2.below hb0)).mono ?_
 rintro e w1 ⟨hb1, ⟨hm, rfl⟩ | ⟨hm, cb, pv, cv, sv, fp, rfl, st, hr, hf, hfl, hcb⟩⟩
 ·have hB1 := hb0.trans (hb1.mono hb0.size)
  have HM := Lib.hid (zcY hm)
  clear hm hb1
  go_wp2_with fail
  go_ret2
  exact ⟨_, _, [], [], rfl, by rw [HM.out]; exact zbL _ _ (by simp [maxLen]), by rw [HM.out]; exact zbL _ _ (by simp [maxLen]), Fresh.nil _ _, hB1⟩
 ·have hB1 := hb0.trans (hb1.mono hb0.size)
  have HM := Lib.hid (zd9 hm)
  obtain ⟨pa, pc, rfl, _, _⟩ := zc hr
  obtain ⟨sa, sn, sc, rfl⟩ := st.srow.form'
  have P0 := st.p0
  have P2 := st.p2
  have hzz := hb0.size
  clear hm hb1
  go_wp2_with fail
  have q0 := cell_regrown P0
  have q1 := cell_regrown P2
  refine wp_region_quiet_below (by kernel_rfl) (by kernel_rfl) ?_
  repeat (quiet_step (fail))
  refine wpQuiet_nil ?_
  intro w4 hw4
  obtain ⟨⟨dq, osq⟩, hw4⟩ := hw4
  have hb4 : Below w1.heap.size w1 w4 := hw4 ▸ below_regrown w1 dq osq
  clear hw4 q0 q1
  have hB4 := hB1.trans (hb4.mono hB1.size)
  have hr4 := hr.below hb4
  have hf4 := hf.below hb4
  have st4 := st.below hb4
  go_wp2_with fail
  go_ret2
  obtain ⟨fs, h3, h4, _⟩ := Own.fresh st4.srow (Fresh.nil _ _)
  exact ⟨_, _, fp, fs, rfl, by rw [HM.out]; exact hr4, by rw [HM.out]; exact h3, (hf4.mono hzz).app (fun b hb => Nat.lt_succ_of_lt (hfl b hb)) (by omega) h4, hB4⟩
def TogOut (s : Sg) (es : List Eqn) (a b : Tm) (w : World) (e : Ending) (w' : World) : Prop :=
 Below w.heap.size w w' ∧ ((zC s es a b = false ∧ ∃ p, e = .returned (.tuple #[.pointer p, .bool false])) ∨
  (zC s es a b = true ∧ ∃ (cb : Nat) (pv cv sv : Value) (fp : List Nat), e = .returned (.tuple #[.pointer (some ⟨cb, 0, none⟩), .bool true]) ∧ CloAt w' cb pv (cloC es [a, b]) (cloS es [a, b]) cv sv ∧
   Rd w' (.sl ((zq es [a, b]).map Tm.cd)) pv fp ∧ Fresh w.heap.size w' fp ∧ (∀ b ∈ fp, b < cb) ∧ w.heap.size ≤ cb))
theorem zdi (s : Sg) (es : List Eqn) (a b : Tm) (vs ua ub : List Value) (v : Value) (f f' fa fb : List Nat) (w : World) (hbig : Tm.sizes (zk es ++ [a, b]) ≤ 1000000000) (hbig2 : es.length ≤ 1048576) (hv : RdVs w s.cd vs f) (hx : Rd w (.sl (es.map Eqn.cd)) v f') (ha : RdVs w a.cd ua fa) (hb : RdVs w b.cd ub fb) :
  Calls Tryz.prog 34 #[.agg vs.toArray, v, .agg ua.toArray, .agg ub.toArray] w (TogOut s es a b w) := by
 obtain ⟨a0, c0, f0, rfl, _, m0⟩ := Sg.open hv
 obtain ⟨ea, ec, rfl, hc1, hc2⟩ := zc hx
 obtain ⟨xa, xc, xf, rfl, _, xs, xk⟩ := Tm.open ha
 obtain ⟨ya, yc, yf, rfl, _, ys, yk⟩ := Tm.open hb
 go_enter Tryz.func34, Tryz.ntmps34
 go_wp2_with fail
 have B3 := box3 (w := w) (wr := (((w.alloc (.cells #[.slice a0 s.syms.length c0] 25)).alloc (.cells #[.string a.name, .slice xa a.kids.length xc] 29)).alloc (.cells #[.string b.name, .slice ya b.kids.length yc] 29)).alloc (.cells #[.string a.name, .slice xa a.kids.length xc, .string b.name, .slice ya b.kids.length yc] 29)) (cs := #[.slice a0 s.syms.length c0]) (ds := #[.string a.name, .slice xa a.kids.length xc]) (es := #[.string b.name, .slice ya b.kids.length yc]) (T := 25) (U := 29) (V := 29) ((Below.refl _ _).alloc (by simp) _)
 obtain ⟨X, Y, Z, _, _, hz, hB⟩ := B3
 have Y0 := Y 0
 have Y1 := Y 1
 have Z0 := Z 0
 have Z1 := Z 1
 simp only [zeF, zeD, zeE] at Y0 Y1 Z0 Z1
 have R := zt (((w.alloc (.cells #[.slice a0 s.syms.length c0] 25)).alloc (.cells #[.string a.name, .slice xa a.kids.length xc] 29)).alloc (.cells #[.string b.name, .slice ya b.kids.length yc] 29)) #[.string a.name, .slice xa a.kids.length xc, .string b.name, .slice ya b.kids.length yc] 29
 simp only [World.size_alloc] at R
 generalize (((w.alloc (.cells #[.slice a0 s.syms.length c0] 25)).alloc (.cells #[.string a.name, .slice xa a.kids.length xc] 29)).alloc (.cells #[.string b.name, .slice ya b.kids.length yc] 29)).alloc (.cells #[.string a.name, .slice xa a.kids.length xc, .string b.name, .slice ya b.kids.length yc] 29) = W at *
 obtain ⟨fm, hm2⟩ := zcA (W := W) (a := a) (b := b) (g := w.heap.size + 1 + 1 + 1) (by exact ha.below hB) (by exact hb.below hB) (World.block_lt_of_cell? _ _ (R 0)) (fun j u hj => by rw [R j]; simpa using hj)
 clear X Y Z R
 refine (zbb s es [a, b] _ _ _ _ _ _ _ hbig hbig2 (by exact hv.below hB) (by exact hx.below hB) (by exact hm2)).mono ?_
 rintro e w1 ⟨hb1, ⟨hm, rfl⟩ | ⟨hm, cb, pv, cv, sv, fp, rfl, st, hr, hf, hfl, hcb⟩⟩
 ·have hB1 := hB.trans (hb1.mono hB.size)
  have HM : Hid (zC s es a b = false) := Lib.hid (by unfold zC; rw [hm]; rfl)
  clear hm hb1 Y0 Y1 Z0 Z1 hm2
  go_wp2_with fail
  refine wp_region_quiet_below (by kernel_rfl) (by kernel_rfl) ?_
  repeat (go_big_quiet_step (fail))
  refine wpQuiet_nil ?_
  intro w4 hw4
  obtain ⟨⟨dq, osq⟩, hw4⟩ := hw4
  have hb4 : Below w1.heap.size w1 w4 := hw4 ▸ below_regrown w1 dq osq
  clear hw4
  go_wp2_with fail
  go_ret2
  exact ⟨hB1.trans (hb4.mono hB1.size), .inl ⟨HM.out, _, rfl⟩⟩
 ·have hB1 := hB.trans (hb1.mono hB.size)
  have HM : Hid (zC s es a b = (Clo.cl (cloC es [a, b]) (Tm.pos (zq es [a, b]) a) == Clo.cl (cloC es [a, b]) (Tm.pos (zq es [a, b]) b))) := Lib.hid (by unfold zC; rw [hm]; rfl)
  have Y0' := za Y0 hb1
  have Y1' := za Y1 hb1
  have Z0' := za Z0 hb1
  have Z1' := za Z1 hb1
  have hWz := hB.size
  clear hm hb1 hm2 Y0 Y1 Z0 Z1
  have hma : a ∈ zq es [a, b] := zR (List.mem_append_right _ (by simp))
  have hmb : b ∈ zq es [a, b] := zR (List.mem_append_right _ (by simp))
  have HO := Lib.hid (zaw es [a, b])
  have HG := Lib.hid (za5 es [a, b]).1
  have hpx := (Tm.pos_yes hma).1
  have hpy := (Tm.pos_yes hmb).1
  obtain ⟨g, cp, rfl, hgB, hgw, hcp⟩ := st.crow.form (by rw [zm, HG.out]; omega)
  rw [zm] at st hcp
  have ca := (st.crow.cell (k := Tm.pos (zq es [a, b]) a) (by rw [zm, HG.out]; exact hpx)).1
  have cb' := (st.crow.cell (k := Tm.pos (zq es [a, b]) b) (by rw [zm, HG.out]; exact hpy)).1
  rw [Clo.nats_get (by rw [HG.out]; exact hpx)] at ca
  rw [Clo.nats_get (by rw [HG.out]; exact hpy)] at cb'
  have hcx : Tm.pos (zq es [a, b]) a < (cloC es [a, b]).length := by rw [HG.out]; exact hpx
  have hcy : Tm.pos (zq es [a, b]) b < (cloC es [a, b]).length := by rw [HG.out]; exact hpy
  have hvw : TmsR w1 (zq es [a, b]) pv := ⟨fp, hr⟩
  have hxw : TmR w1 a (.agg #[.string a.name, .slice xa a.kids.length xc]) := TmR.mk xs ⟨_, xk.below hB1⟩
  have hyw : TmR w1 b (.agg #[.string b.name, .slice ya b.kids.length yc]) := TmR.mk ys ⟨_, yk.below hB1⟩
  have P0 := st.p0
  have P1 := st.p1
  obtain ⟨r, hr0⟩ : ∃ r, r = (Clo.cl (cloC es [a, b]) (Tm.pos (zq es [a, b]) a) == Clo.cl (cloC es [a, b]) (Tm.pos (zq es [a, b]) b)) := ⟨_, rfl⟩
  have heb : (((Clo.cl (cloC es [a, b]) (Tm.pos (zq es [a, b]) a) : Nat) : Int) == ((Clo.cl (cloC es [a, b]) (Tm.pos (zq es [a, b]) b) : Nat) : Int)) = r := by
   rw [hr0, Bool.eq_iff_iff]; simp only [beq_iff_eq]; omega
  rw [← hr0] at HM
  clear hr0
  go_wp2_with fail
  have q0 := cell_regrown Y0'
  have q1 := cell_regrown Y1'
  have q2 := cell_regrown Z0'
  have q3 := cell_regrown Z1'
  have q4 := cell_regrown ca
  have q5 := cell_regrown cb'
  have q6 := cell_regrown P1
  refine wp_region_quiet_below (by kernel_rfl) (by kernel_rfl) ?_
  repeat (go_big_quiet_step (first
   | (with_reducible refine Calls.regrown_of (zay (zq es [a, b]) a _ _ cb _ HO.out hma ((below_regrown _ _ _).cell (World.block_lt_of_cell? _ _ P0) |>.trans P0) (hvw.below (below_regrown _ _ _)) (hxw.below (below_regrown _ _ _))))
   | (with_reducible refine Calls.regrown_of (zay (zq es [a, b]) b _ _ cb _ HO.out hmb ((below_regrown _ _ _).cell (World.block_lt_of_cell? _ _ P0) |>.trans P0) (hvw.below (below_regrown _ _ _)) (hyw.below (below_regrown _ _ _))))))
  refine wpQuiet_nil ?_
  intro w4 hw4
  obtain ⟨⟨dq, osq⟩, hw4⟩ := hw4
  have hb4 : Below w1.heap.size w1 w4 := hw4 ▸ below_regrown w1 dq osq
  clear hw4 q0 q1 q2 q3 q4 q5 q6
  have hB4 := hB1.trans (hb4.mono hB1.size)
  go_wp2_with fail
  go_ret2
  cases r
  ·exact ⟨hB4, .inl ⟨HM.out, _, rfl⟩⟩
  ·exact ⟨hB4, .inr ⟨HM.out, cb, pv, _, sv, fp, rfl, st.below hb4, hr.below hb4, (hf.mono hWz).below hb4, hfl, by omega⟩⟩
theorem zez (s : Sg) (es : List Eqn) (a b : Tm) (vs ua ub : List Value) (v : Value) (f f' fa fb : List Nat) (w : World) (hbig : Tm.sizes (zk es ++ [a, b]) ≤ 1000000000) (hbig2 : es.length ≤ 1048576) (hv : RdVs w s.cd vs f) (hx : Rd w (.sl (es.map Eqn.cd)) v f') (ha : RdVs w a.cd ua fa) (hb : RdVs w b.cd ub fb) :
  Calls Tryz.prog 11 #[.agg vs.toArray, v, .agg ua.toArray, .agg ub.toArray] w fun e w' => e = .returned (.bool (zC s es a b)) ∧ Below w.heap.size w w' := by
 obtain ⟨a0, c0, f0, rfl, _, m0⟩ := Sg.open hv
 obtain ⟨ea, ec, rfl, hc1, hc2⟩ := zc hx
 obtain ⟨xa, xc, xf, rfl, _, xs, xk⟩ := Tm.open ha
 obtain ⟨ya, yc, yf, rfl, _, ys, yk⟩ := Tm.open hb
 have hB := ((zb w (.cells #[.slice a0 s.syms.length c0] 25)).alloc (by simp) (.cells #[.string a.name, .slice xa a.kids.length xc] 29)).alloc (by simp; omega) (.cells #[.string b.name, .slice ya b.kids.length yc] 29)
 go_enter Tryz.func11, Tryz.ntmps11
 go_wp2_with fail
 refine (zdi s es a b _ _ _ _ _ _ _ _ _ hbig hbig2 (by exact hv.below hB) (by exact hx.below hB) (by exact ha.below hB) (by exact hb.below hB)).mono ?_
 rintro e w1 ⟨hb1, ⟨hm, p, rfl⟩ | ⟨hm, cb, pv, cv, sv, fp, rfl, _⟩⟩
 ·have HM := Lib.hid hm
  clear hm
  go_wp2_with fail
  go_ret
  exact ⟨retB HM.out.symm, hB.trans (hb1.mono hB.size)⟩
 ·have HM := Lib.hid hm
  clear hm
  go_wp2_with fail
  go_ret
  exact ⟨retB HM.out.symm, hB.trans (hb1.mono hB.size)⟩
end Go.Proofs.YtlefdhhnlbpbkaaGreat
end
