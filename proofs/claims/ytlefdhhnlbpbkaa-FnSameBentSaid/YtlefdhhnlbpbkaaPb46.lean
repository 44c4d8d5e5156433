/- Parts of the proof: CloK CloX. -/
import Derived.Lib.Hide
import Derived.OwnWalk
import Derived.Test.YtlefdhhnlbpbkaaPb26
import Derived.Test.YtlefdhhnlbpbkaaPb19
import Derived.Test.YtlefdhhnlbpbkaaPb34
section
namespace Go.Proofs.Ytlefdhhnlbpbkaa
open Go Go.RowKit
set_option linter.unusedVariables false
set_option linter.unusedSimpArgs false
set_option maxRecDepth 100000
set_option maxHeartbeats 16000000
theorem zdP (ps : List Tm) (es : List Eqn) (v u : Value) (fu : List Nat) (w : World) (ho : Hid (Tm.Ord ps)) (hlp : ps.length ≤ 1000000) (hle : es.length ≤ 1000000) (hin : Hid (∀ e ∈ es, e.a ∈ ps ∧ e.b ∈ ps)) (hv : TmsR w ps v) (hu : Rd w (.sl (es.map Eqn.cd)) u fu) :
  Calls Try.prog 58 #[v, u] w fun e w' => e = .returned (.pointer (some ⟨w.heap.size, 0, none⟩)) ∧ ∃ cv sv, CloAt w' w.heap.size v (Clo.close ps es).1 (Clo.close ps es).2 cv sv ∧ Below w.heap.size w w' := by
 obtain ⟨pa, pc, rfl, hpc1, hpc2⟩ := hv.form
 obtain ⟨ea, ec, rfl, hec1, hec2⟩ := zd hu
 go_enter Try.func58, Try.ntmps58
 go_wp2_with fail
 go_loopw [6, 19] (fun _ i wr => ∃ (k : Nat) (cv : Value), k ≤ ps.length ∧ i = .int .i64 k ∧ CloAt wr w.heap.size (.slice pa ps.length pc) (List.range k) [] cv (.slice none 0 0) ∧ Below w.heap.size w wr) (fun _ i _ => ps.length - (intOf i).toNat)
 case atStart =>
  have hx := zq w #[.slice pa ps.length pc, .slice none 0 0, .slice none 0 0] 70
  exact ⟨0, _, Nat.zero_le _, rfl, ⟨hx 0, hx 1, hx 2, fun j => zE _ _ _ _, Own.nil _ _ _ _, Own.nil _ _ _ _, fun b hb => by simp [Value.ownBlock] at hb⟩, zb _ _⟩
 case round =>
  obtain ⟨k, cv, hk, rfl, st, hB⟩ := hrel
  by_cases hlt : k < ps.length
  ·have ALB := zb wr (.cells #[.int .i64 k] 3)
   have hown2 := Own.below st.crow ALB
   obtain ⟨ca, cn, cc, rfl⟩ := hown2.form'
   have hl : ((nats (List.range k)).map zx).length = k := by simp [nats]
   have hz := st.lt
   have P1 := st.p1
   have ST := Lib.hid st
   go_wp2_with (at_builtin; refine zp zaU rfl _ _ rfl (w.heap.size + 1) _ _ _ rfl hown2 ⟨wr.heap.size, 0, none⟩ 1 1 [zx k] [.int .i64 k] [] rfl rfl ?rd ?k ?cells ?na ?bytes ?len ?base ?next)
   case rd => exact by simpa using zae [(k : Int)] (by simp; exact zV (by omega))
   case k => simp [zao]
   case cells => exact zm _ _ _
   case na => simp
   case bytes => omega
   case len => omega
   case base => simp; omega
   case next =>
    intro v' w4 hown4 hg hv' hs4
    have hm4 : Moved wr (.slice ca cn cc) w4 v' := Moved.after ALB ⟨hg, fun b hb => by simpa using hv' b hb⟩
    have hblk := hm4.block st.lt (Own.row_ne st.crow (by omega))
    have F2 : w4.frozen? ⟨w.heap.size, 1, none⟩ = false := zD hblk (st.fr 1)
    have D2 := zh hblk st.p1
    have st4 := st.class (c' := List.range (k + 1)) (by rw [zax]; unfold IRow; simpa using hown4) hm4
    have hb4 : Below w.heap.size w (w4.setCell ⟨w.heap.size, 1, none⟩ v') := (hB.trans (hm4.toBelow (B := w.heap.size) (by omega) (fun b hb => by have := (Own.block st.crow hb).1; omega))).setCell (Nat.le_refl _) _
    obtain ⟨ta, tn, tc, rfl⟩ := hown4.form'
    clear st hown4 hm4 hg hv' hs4 P1
    go_wp2_with fail
    go_roundw
    case rel => exact ⟨k + 1, _, by omega, by go_num, st4, hb4⟩
    case measure => simp [intOf]; omega
  ·have ek : k = ps.length := by omega
   subst ek
   clear hlt hk
   have hg0 := Lib.hid (Clo.Good.start ps.length)
   go_wp2_with fail
   go_loopw [35] (fun i wq => ∃ (m : Nat) (c : List Nat) (l : List Stp) (cv sv : Value), m ≤ es.length ∧ i = .int .i64 m ∧ l.length ≤ m ∧ Hid (Clo.Gv ps es (Clo.given ps es 0 (List.range ps.length) []) m c l) ∧ Hid (Clo.Good ps.length c) ∧ CloAt wq w.heap.size (.slice pa ps.length pc) c l cv sv ∧ Below w.heap.size w wq) (fun i _ => es.length - (intOf i).toNat)
   case atStart => exact ⟨0, List.range ps.length, [], _, _, Nat.zero_le _, rfl, Nat.zero_le _, Lib.hid Clo.Gv.start, hg0, st, hB⟩
   case round =>
    clear st hg0 hB
    obtain ⟨m, c, l, cv, sv, hm, rfl, hlm, hgv, hgd, st, hB⟩ := hrel
    by_cases hlt : m < es.length
    ·obtain ⟨b, off, rfl, hbs, _⟩ := zo hu (by omega)
     obtain ⟨b1, e1, g1, b3, e3, g3, d0', d1', d2', d3', t0, t1, t2, t3, _⟩ := Eqn.at hu hlt
     have d0 := za d0' hB
     have d1 := za d1' hB
     have d2 := za d2' hB
     have d3 := za d3' hB
     have hma := hin.out es[m] (zd2 hlt)
     have hpa := (Tm.pos_yes hma.1).1
     have hpb := (Tm.pos_yes hma.2).1
     have HC : Hid (c.length = ps.length) := Lib.hid hgd.out.1
     have hz := hB.size
     have hbz : b < wr.heap.size := by omega
     go_wp2_with fail
     have HBX := zb wr (.cells #[.string es[m].a.name, .slice b1 es[m].a.kids.length e1, .string es[m].b.name, .slice b3 es[m].b.kids.length e3] 39)
     have X := zq wr #[.string es[m].a.name, .slice b1 es[m].a.kids.length e1, .string es[m].b.name, .slice b3 es[m].b.kids.length e3] 39
     have X0 := X 0
     have X1 := X 1
     have X2 := X 2
     have X3 := X 3
     simp only [zdY, zdW, zdX] at X0 X1 X2 X3
     have hB2 := hB.trans (HBX.mono hz)
     have st2 := st.below HBX
     have P0 := st2.p0
     have hvw := hv.below hB2
     have hxa : TmR _ es[m].a (.agg #[.string es[m].a.name, .slice b1 es[m].a.kids.length e1]) := TmR.mk t0 ⟨g1, t1.below hB2⟩
     have hxb : TmR _ es[m].b (.agg #[.string es[m].b.name, .slice b3 es[m].b.kids.length e3]) := TmR.mk t2 ⟨g3, t3.below hB2⟩
     clear X st hB d0 d1 d2 d3
     generalize wr.alloc (.cells #[.string es[m].a.name, .slice b1 es[m].a.kids.length e1, .string es[m].b.name, .slice b3 es[m].b.kids.length e3] 39) = W at *
     have q0 := cell_regrown X0
     have q1 := cell_regrown X1
     have q2 := cell_regrown X2
     have q3 := cell_regrown X3
     refine wp_region_quiet_below (by kernel_rfl) (by kernel_rfl) ?_
     repeat (quiet_step (first
      | (with_reducible refine Calls.regrown_of (zar ps es[m].a _ _ w.heap.size _ ho.out hma.1 ((below_regrown _ _ _).cell (World.block_lt_of_cell? _ _ P0) |>.trans P0) (hvw.below (below_regrown _ _ _)) (hxa.below (below_regrown _ _ _))))
      | (with_reducible refine Calls.regrown_of (zar ps es[m].b _ _ w.heap.size _ ho.out hma.2 ((below_regrown _ _ _).cell (World.block_lt_of_cell? _ _ P0) |>.trans P0) (hvw.below (below_regrown _ _ _)) (hxb.below (below_regrown _ _ _))))))
     refine wpQuiet_nil ?_
     intro w2 hw2
     obtain ⟨⟨dq, osq⟩, hw2⟩ := hw2
     have hb2 : Below W.heap.size W w2 := hw2 ▸ below_regrown W dq osq
     clear hw2 q0 q1 q2 q3 X0 X1 X2 X3 P0
     have st3 := st2.below hb2
     have hB3 := hB2.trans (hb2.mono hB2.size)
     have hz3 := hB3.size
     clear st2 hB2 hvw hxa hxb hb2
     obtain ⟨g, cp, rfl, hgB, hgw, hcp⟩ := st3.crow.form (by rw [zl, HC.out]; omega)
     rw [zl] at st3 hcp
     have ca := (st3.crow.cell (k := Tm.pos ps es[m].a) (by rw [zl, HC.out]; exact hpa)).1
     have cb := (st3.crow.cell (k := Tm.pos ps es[m].b) (by rw [zl, HC.out]; exact hpb)).1
     rw [Clo.nats_get (by rw [HC.out]; exact hpa)] at ca
     rw [Clo.nats_get (by rw [HC.out]; exact hpb)] at cb
     have hca : Tm.pos ps es[m].a < c.length := by rw [HC.out]; exact hpa
     have hcb : Tm.pos ps es[m].b < c.length := by rw [HC.out]; exact hpb
     have P1 := st3.p1
     have hcl : c.length ≤ 1000000 := by rw [HC.out]; exact hlp
     by_cases he : Clo.cl c (Tm.pos ps es[m].a) = Clo.cl c (Tm.pos ps es[m].b)
     ·have heb : (((Clo.cl c (Tm.pos ps es[m].a) : Nat) : Int) != ((Clo.cl c (Tm.pos ps es[m].b) : Nat) : Int)) = false := by rw [he]; simp
      have HG := Lib.hid (hgv.out.same hlt he)
      clear he
      go_wp2_with fail
      have q0 := cell_regrown ca
      have q1 := cell_regrown cb
      have q2 := cell_regrown P1
      refine wp_region_quiet_below (by kernel_rfl) (by kernel_rfl) ?_
      repeat (quiet_step (fail))
      refine wpQuiet_nil ?_
      intro w4 hw4
      obtain ⟨⟨dq, osq⟩, hw4⟩ := hw4
      have hb4 : Below w2.heap.size w2 w4 := hw4 ▸ below_regrown w2 dq osq
      clear hw4 q0 q1 q2
      go_wp2_with fail
      go_roundw
      case rel => exact ⟨m + 1, c, l, _, _, by omega, by go_num, by omega, HG, hgd, st3.below hb4, hB3.trans (hb4.mono hz3)⟩
      case measure => simp [intOf]; omega
     ·have heb : (((Clo.cl c (Tm.pos ps es[m].a) : Nat) : Int) != ((Clo.cl c (Tm.pos ps es[m].b) : Nat) : Int)) = true := by simp; omega
      have HG := Lib.hid (hgv.out.new hlt he)
      have hgj := Lib.hid (hgd.out.join hpa hpb)
      clear he
      go_wp2_with fail
      have q0 := cell_regrown ca
      have q1 := cell_regrown cb
      have q2 := cell_regrown P1
      refine wp_region_quiet_below (by kernel_rfl) (by kernel_rfl) ?_
      repeat (quiet_step (fail))
      refine wpQuiet_nil ?_
      intro w4 hw4
      obtain ⟨⟨dq, osq⟩, hw4⟩ := hw4
      have hb4 : Below w2.heap.size w2 w4 := hw4 ▸ below_regrown w2 dq osq
      clear hw4 q0 q1 q2 ca cb P1
      have st4 := st3.below hb4
      have hB4 := hB3.trans (hb4.mono hz3)
      clear st3 hB3 hb4
      go_wp2_with fail
      refine (zcM c l _ _ _ w.heap.size _ _ (m : Nat) _ (zV (by omega)) (fun i hi => by
        have hi' : i < ps.length := by rw [← HC.out]; exact hi
        have := (hgd.out.2 i hi').1
        omega) (by omega) (by omega) hca hcb st4).mono ?_
      rintro e w5 ⟨rfl, cv', sv', st5, hb5⟩
      go_wp2_with fail
      go_roundw
      case rel => exact ⟨m + 1, _, _, cv', sv', by omega, by go_num, by simp; omega, HG, hgj, st5, hB4.trans hb5⟩
      case measure => simp [intOf]; omega
    ·have em : m = es.length := by omega
     subst em
     clear hlt hm
     have HAT : Hid (Clo.At ps (Clo.close ps es) c l) := Lib.hid (by rw [Clo.close_eq, hgv.out.stop (Nat.le_refl _)]; exact Clo.At.start)
     clear hgv
     have hlc : Hid (l.length + Clo.roots ps.length c ≤ es.length + ps.length) := Lib.hid (by have := Clo.roots_le ps.length c; omega)
     go_wp2_with fail
     go_loopw [11, 12, 13] (fun _ _ _ wq => ∃ (c : List Nat) (l : List Stp) (cv sv : Value), Hid (Clo.At ps (Clo.close ps es) c l) ∧ Hid (l.length + Clo.roots ps.length c ≤ es.length + ps.length) ∧ Hid (Clo.Good ps.length c) ∧ CloAt wq w.heap.size (.slice pa ps.length pc) c l cv sv ∧ Below w.heap.size w wq) (fun _ _ _ wq => es.length + ps.length - zdA ((wq.cell? ⟨w.heap.size, 2, none⟩).getD (.bool false)))
     case atStart => exact ⟨c, l, cv, sv, HAT, hlc, hgd, st, hB⟩
     case round =>
      clear st hB HAT hlc hgd
      obtain ⟨c, l, cv, sv, hat, hlc, hgd, st, hB⟩ := hrel
      have HC : Hid (c.length = ps.length) := Lib.hid hgd.out.1
      have hvw := hv.below hB
      have hz := hB.size
      go_wp2_with fail
      refine (pair_any ps c l _ _ _ w.heap.size _ ho HC (by omega) st hvw).mono ?_
      rintro e w2 ⟨rfl, hb2⟩
      have st2 := st.below hb2
      have hB2 := hB.trans (hb2.mono hz)
      have hp2 := za st.p2 hb2
      obtain ⟨na, nb, nm, hnv, hnx⟩ := za8 (Clo.next ps c)
      rw [hnv]
      clear hnv
      have hp2' := st.p2
      have hln := st.srow.form
      clear hvw
      cases nm
      ·have HR := Lib.hid (hat.out.stop hnx)
       clear hnx
       go_wp2_with fail
       go_ret
       exact ⟨rfl, _, _, by rw [HR.out]; exact st2, hB2⟩
      ·have hstep := hat.out.step hgd.out hnx
       have hab := Clo.next_spec hnx
       have HAT := Lib.hid hstep.1
       have HGD := Lib.hid hstep.2.1
       have hrt := hstep.2.2
       have hlo := hlc.out
       have hlb : l.length < es.length + ps.length := by omega
       have HLC : Hid ((l ++ [(⟨na, nb, -1⟩ : Stp)]).length + Clo.roots ps.length (Clo.join c na nb) ≤ es.length + ps.length) := Lib.hid (by simp; omega)
       clear hat hlc hrt hlo hstep hnx
       have hnb := hab.2.1
       have hna : na < ps.length := by omega
       clear hab
       have hca : na < c.length := by rw [HC.out]; exact hna
       have hcb : nb < c.length := by rw [HC.out]; exact hnb
       have hcl : c.length ≤ 1000000 := by rw [HC.out]; exact hlp
       go_wp2_with fail
       refine (zcM c l _ _ _ w.heap.size _ _ (-1) _ (by constructor <;> omega) (fun i hi => by
        have hi' : i < ps.length := by rw [← HC.out]; exact hi
        have := (hgd.out.2 i hi').1
        omega) (by omega) (by omega) hca hcb st2).mono ?_
       rintro e w5 ⟨rfl, cv', sv', st5, hb5⟩
       go_wp2_with fail
       go_roundw
       case rel => exact ⟨_, _, cv', sv', HAT, HLC, HGD, st5, hB2.trans hb5⟩
       case measure =>
        obtain ⟨s1, s2, rfl, _, _⟩ := hln
        obtain ⟨s3, s4, rfl, _, _⟩ := st5.srow.form
        rw [st5.p2, st.p2]
        simp only [Option.getD_some, zdA, zd6, zd3, List.length_cons, List.length_nil]
        omega
def CloOut (s : Sg) (es : List Eqn) (ms : List Tm) (w : World) (e : Ending) (w' : World) : Prop :=
 Below w.heap.size w w' ∧ ((zX s es ms = false ∧ e = .returned (.tuple #[.pointer none, .bool false])) ∨
  (zX s es ms = true ∧ ∃ (cb : Nat) (pv cv sv : Value) (fp : List Nat), e = .returned (.tuple #[.pointer (some ⟨cb, 0, none⟩), .bool true]) ∧ CloAt w' cb pv (cloC es ms) (cloS es ms) cv sv ∧
   Rd w' (.sl ((zr es ms).map Tm.cd)) pv fp ∧ Fresh w.heap.size w' fp ∧ (∀ b ∈ fp, b < cb) ∧ w.heap.size ≤ cb))
theorem moreB_eqs {s : Sg} {es : List Eqn} {ms : List Tm} (h : eqsB s es = false) : zX s es ms = false := by simp [zX, h]
theorem eqsB_wf {s : Sg} {es : List Eqn} (h : eqsB s es = true) : (zi es).all Tm.wf = true := by
 simp only [eqsB, zd7, List.all_eq_true] at h
 exact zci (s := s) (Nat.le_refl _) (fun j _ hj => h.2.2.1 _ (zd2 hj))
theorem tsrt_wf {s : Sg} {t : Tm} (h : (t.tsrt s).isSome = true) : t.wf = true := by
 cases hw : t.wf
 ·rw [Tm.tsrt_bad hw] at h; simp at h
 ·rfl
theorem zdQ {s : Sg} {es : List Eqn} {ms : List Tm} {k : Nat} (h : eqsB s es = true) (hk : ms.length ≤ k) (ha : AllSrt s ms k) : Tm.parts (zi es ++ ms) = zr es ms := by
 unfold Tm.parts zr
 rw [if_pos]
 rw [List.all_append, eqsB_wf h, Bool.true_and, List.all_eq_true]
 intro t ht
 obtain ⟨j, hj, rfl⟩ := List.getElem_of_mem ht
 exact tsrt_wf (ha j (by omega) hj)
theorem za3 (s : Sg) (es : List Eqn) (ms : List Tm) (vs : List Value) (v v2 : Value) (f f' f2 : List Nat) (w : World) (hbig : Tm.sizes (zi es ++ ms) ≤ 1000000000) (hbig2 : es.length ≤ 1048576) (hv : RdVs w s.cd vs f) (hx : Rd w (.sl (es.map Eqn.cd)) v f') (h2 : Rd w (.sl (ms.map Tm.cd)) v2 f2) :
  Calls Try.prog 32 #[.agg vs.toArray, v, v2] w (CloOut s es ms w) := by
 obtain ⟨a0, c0, f0, rfl, _, m0⟩ := Sg.open hv
 obtain ⟨a, cap, rfl, hc1, hc2⟩ := zd hx
 obtain ⟨a2, cap2, rfl, hc3, hc4⟩ := zd h2
 have hbs := hbig
 rw [Tm.sizes_append] at hbs
 have hml := Tm.sizes_len ms
 go_enter Try.func32, Try.ntmps32
 go_wp2_with fail
 refine (zaW s es _ _ _ _ _ (by omega) hbig2 (by exact hv.below (zb _ _)) (by exact hx.below (zb _ _))).mono ?_
 rintro e w1 ⟨rfl, hb1⟩
 obtain ⟨hxL, hzL, hBL⟩ := box1 (w := w) (wr := w1) (cs := #[.slice a0 s.syms.length c0]) (T := 25) (zN hb1 (by simp))
 have cx1 := hxL 0
 simp only [zdY, zdW, zdX] at cx1
 clear hxL hb1
 cases h1 : eqsB s es
 ·have HF := Lib.hid (moreB_eqs (ms := ms) h1)
  clear h1
  go_wp2_with fail
  go_ret2
  exact ⟨hBL, .inl ⟨HF.out, rfl⟩⟩
 have H1 := Lib.hid h1
 clear h1
 go_wp2_with fail
 go_loopw [19] (fun i wq => ∃ k : Nat, k ≤ ms.length ∧ i = .int .i64 k ∧ Hid (AllSrt s ms k) ∧ wq.cell? ⟨w.heap.size, 0, none⟩ = some (.slice a0 s.syms.length c0) ∧ w.heap.size < wq.heap.size ∧ Below w.heap.size w wq) (fun i _ => ms.length - (intOf i).toNat)
 case atStart => exact ⟨0, Nat.zero_le _, rfl, Lib.hid (fun j hj => by omega), cx1, by omega, hBL⟩
 case round =>
  clear cx1 hBL hzL
  obtain ⟨k, hkl, rfl, hall, cx, hz3, hBM⟩ := hrel
  by_cases hlt : k < ms.length
  ·obtain ⟨b, off, rfl, hbs2, _⟩ := zo h2 (by omega)
   have hbz : b < wr.heap.size := by omega
   obtain ⟨b1, e1, g1, d0, d1, t0, t1, _⟩ := Tm.at (h2.below hBM) hlt
   have hbk := zb wr (.cells #[.string ms[k].name, .slice b1 ms[k].kids.length e1] 29)
   have hBk := hBM.trans (hbk.mono hBM.size)
   go_wp2_with fail
   refine (zaw s ms[k] _ _ _ _ _ (by exact hv.below hBk) (by exact (Tm.rdv t0 t1).below hbk)).mono ?_
   rintro e w4 ⟨rfl, hb4⟩
   have hB4 := hBk.trans (hb4.mono hBk.size)
   have cx4 := za (za cx hbk) hb4
   have hz5 : w.heap.size < w4.heap.size := by have := hbk.size; have := hb4.size; omega
   clear hb4 d0 d1 cx hBk hbk
   cases ho : ms[k].tsrt s with
   | none =>
    have HF := Lib.hid (zdi (es := es) hlt (by rw [ho]; rfl))
    clear ho
    simp only [Option.getD_none, Option.isSome_none]
    go_wp2_with fail
    go_ret2
    exact ⟨hB4, .inl ⟨HF.out, rfl⟩⟩
   | some m =>
    have HE := Lib.hid (hall.out.succ hlt (by rw [ho]; rfl))
    clear ho
    simp only [Option.getD_some, Option.isSome_some]
    go_wp2_with fail
    go_roundw
    case rel => exact ⟨k + 1, by omega, by go_num, HE, cx4, hz5, hB4⟩
    case measure => simp [intOf]; omega
  ·have HF := Lib.hid (zb0 (es := es) (by omega) hall.out)
   have HP := Lib.hid (zdQ H1.out (by omega) hall.out)
   have HG : Hid (zX s es ms = decide ((zr es ms).length ≤ 24)) := Lib.hid (by rw [HF.out, H1.out]; rfl)
   have hlp := zcB es ms
   go_wp2_with fail
   refine (zbW es _ _ _ hbig2 (hx.below hBM)).mono ?_
   rintro e w4 ⟨⟨rv, fp, rfl, hown, hfp⟩, hb4⟩
   have hB4 := hBM.trans (hb4.mono hBM.size)
   have hz4 := hb4.size
   have hsl : ((zi es).map Tm.cd).length = 2 * es.length := by rw [zd6, za7]
   have hml2 : (ms.map Tm.cd).length = ms.length := by simp
   obtain ⟨ra, rn, rc, rfl⟩ := hown.form'
   clear hb4
   go_wp2_with (at_builtin; refine zS zaf rfl _ _ rfl wr.heap.size _ _ _ rfl hown (ms.map Tm.cd) _ f2 rfl (h2.below hB4) ?nk ?na ?bytes ?len ?base ?next)
   case nk => simp only [List.mem_map]; rintro x ⟨t, _, rfl⟩; exact Tm.cd_len t
   case na => intro b hb e; have := (hown.block e).1; have := h2.lt _ b hb; have := hBM.size; omega
   case bytes => rw [hsl, hml2]; omega
   case len => rw [hsl, hml2]; omega
   case base => omega
   case next =>
    intro v' w5 nfp hsub hown5 hg hv' hs5
    rw [← zd4] at hown5
    have hB5 := zk hB4 hg hB4.size (fun q hq => by have := (hown.block hq).1; have := hBM.size; omega)
    obtain ⟨fq, hrd5⟩ := hown5.rd'
    obtain ⟨ta, tn, tc, rfl⟩ := hown5.form'
    clear hown5 hown hs5 hg hv' hsl hml2
    go_wp2_with fail
    refine (zaV (zi es ++ ms) _ _ hbig ⟨fq, hrd5⟩).mono ?_
    rintro e w6 ⟨pv, pf, rfl, hp, hpf, hb6⟩
    rw [HP.out] at hp
    have hB6 := hB5.trans (hb6.mono hB5.size)
    have hpf' := hpf.mono hB5.size
    obtain ⟨pa, pc, rfl, _, _⟩ := zd hp
    clear hb6 hrd5 hpf
    by_cases h24 : (zr es ms).length ≤ 24
    rotate_left
    ·have h24b : decide ((24 : Int) < ((zr es ms).length : Int)) = true := by simp; omega
     have HN : Hid (zX s es ms = false) := Lib.hid (by rw [HG.out]; exact decide_eq_false h24)
     go_wp2_with fail
     go_ret2
     exact ⟨hB6, .inl ⟨HN.out, rfl⟩⟩
    ·have h24b : decide ((24 : Int) < ((zr es ms).length : Int)) = false := by simp; omega
     have HN : Hid (zX s es ms = true) := Lib.hid (by rw [HG.out]; exact decide_eq_true h24)
     have h12 := (zaz HN.out).1
     go_wp2_with fail
     refine (zdP (zr es ms) es _ _ _ _ (Lib.hid (zay es ms)) (by omega) (by omega) (Lib.hid (zaq es ms)) ⟨pf, hp⟩ (hx.below hB6)).mono ?_
     rintro e w7 ⟨rfl, cv, sv, st, hb7⟩
     go_wp2_with fail
     go_ret2
     exact ⟨hB6.trans (hb7.mono hB6.size), .inr ⟨HN.out, w6.heap.size, _, cv, sv, pf, rfl, st, hp.below hb7, hpf'.below hb7, fun b hb => hpf'.lt b hb, hB6.size⟩⟩
theorem zct (s : Sg) (es : List Eqn) (ms : List Tm) (vs : List Value) (v v2 : Value) (f f' f2 : List Nat) (w : World) (hbig : Tm.sizes (zi es ++ ms) ≤ 1000000000) (hbig2 : es.length ≤ 1048576) (hv : RdVs w s.cd vs f) (hx : Rd w (.sl (es.map Eqn.cd)) v f') (h2 : Rd w (.sl (ms.map Tm.cd)) v2 f2) :
  Calls Try.prog 12 #[.agg vs.toArray, v, v2] w fun e w' => ∃ rv fp, e = .returned rv ∧ Rd w' (.sl ((zbA s es ms).map zx)) rv fp ∧ Fresh w.heap.size w' fp ∧ Below w.heap.size w w' := by
 obtain ⟨a0, c0, f0, rfl, _, m0⟩ := Sg.open hv
 obtain ⟨a, cap, rfl, hc1, hc2⟩ := zd hx
 obtain ⟨a2, cap2, rfl, hc3, hc4⟩ := zd h2
 have hb0 := zb w (.cells #[.slice a0 s.syms.length c0] 25)
 go_enter Try.func12, Try.ntmps12
 go_wp2_with fail
 refine (za3 s es ms _ _ _ _ _ _ _ hbig hbig2 (by exact hv.below hb0) (by exact hx.below hb0) (by exact h2.below hb0)).mono ?_
 rintro e w1 ⟨hb1, ⟨hm, rfl⟩ | ⟨hm, cb, pv, cv, sv, fp, rfl, st, _, _, _, hcb⟩⟩
 ·have hB1 := hb0.trans (hb1.mono hb0.size)
  have HM := Lib.hid (zaY hm)
  clear hm hb1
  go_wp2_with fail
  go_ret
  exact ⟨_, [], rfl, by rw [HM.out]; exact zcl _ _ (by simp [maxLen]), Fresh.nil _ _, hB1⟩
 ·have hB1 := hb0.trans (hb1.mono hb0.size)
  have HM := Lib.hid (zbc hm)
  have P1 := st.p1
  obtain ⟨ca, cn, cc, rfl⟩ := Own.form' st.crow
  have hzz := hb0.size
  clear hm hb1
  go_wp2_with fail
  go_ret
  obtain ⟨fp', h3, h4, _⟩ := Own.fresh st.crow (Fresh.nil _ _)
  exact ⟨_, fp', rfl, by rw [HM.out]; exact h3, h4.mono (by omega), hB1⟩
end Go.Proofs.Ytlefdhhnlbpbkaa
end
