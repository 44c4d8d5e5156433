/- Parts of the proof: CloJ CloK. -/
import Derived.Lib.Hide
import Derived.OwnWalk
import Derived.Deep.CutRange
import Derived.Test.YtlefdhhnlbpbkaaGreatPt39
section
namespace Go.Proofs.YtlefdhhnlbpbkaaGreat
open Go Go.RowKit
set_option linter.unusedVariables false
set_option linter.unusedSimpArgs false
set_option maxRecDepth 100000
set_option maxHeartbeats 16000000
theorem zba (ps : List Tm) (c : List Nat) (l : List Stp) (pv cv sv : Value) (cb a b : Nat) (w : World) (r : Bool) (ho : Hid (Tm.Ord ps)) (hc : Hid (c.length = ps.length)) (ha : a < ps.length) (hb : b < ps.length) (hr : Clo.alikeB ps c ps[a] ps[b] = r) (hst : CloAt w cb pv c l cv sv) (hv : TmsR w ps pv) :
    Calls Tryz.prog 114 #[.pointer (some ⟨cb, 0, none⟩), .int .i64 a, .int .i64 b] w fun e w' => e = .returned (.bool r) ∧ Below w.heap.size w w' := by
  have hpos : 0 < ps.length := by omega
  obtain ⟨pa, pc, rfl, hp1, hp2⟩ := hv.form
  obtain ⟨pb, off, rfl, hpb⟩ := hv.addr (by omega)
  have HB := zb w (.cells #[.pointer (some ⟨cb, 0, none⟩)] 69)
  have C0 := zt w #[.pointer (some ⟨cb, 0, none⟩)] 69 0
  simp only [zeF, zeD, zeE] at C0
  have HST := hst.below HB
  have hvw := hv.below HB
  obtain ⟨xa, xc, x0, x1, xs, xk⟩ := hvw.at ha
  obtain ⟨ya, yc, y0, y1, ys, yk⟩ := hvw.at hb
  have HX : Hid (∀ t ∈ ps[a].kids, t ∈ ps) := Lib.hid (fun t ht => ho.out.kid ha ht)
  have HY : Hid (∀ t ∈ ps[b].kids, t ∈ ps) := Lib.hid (fun t ht => ho.out.kid hb ht)
  obtain ⟨x, hx⟩ : ∃ x, x = ps[a] := ⟨_, rfl⟩
  obtain ⟨y, hy⟩ : ∃ y, y = ps[b] := ⟨_, rfl⟩
  rw [← hx] at x0 x1 xs xk HX hr
  rw [← hy] at y0 y1 ys yk HY hr
  have P0 := HST.p0
  have HR : Hid (((decide (x.name = y.name) && decide (0 < x.kids.length)) && Clo.kidsB ps c x.kids y.kids) = r) := Lib.hid hr
  clear hx hy hst hv hr
  have hz1 := World.block_lt_of_cell? _ _ C0
  have hz2 := World.block_lt_of_cell? _ _ P0
  have hz3 := World.block_lt_of_cell? _ _ x0
  simp only at hz1 hz2 hz3
  go_enter Tryz.func114, Tryz.ntmps114
  go_wp2_with fail
  generalize w.alloc (.cells #[.pointer (some ⟨cb, 0, none⟩)] 69) = W at *
  go_cut [7, 8] from 9 to 22 (fun s7 s8 wx => ∃ b7 b8, s7 = .pointer (some ⟨b7, 0, none⟩) ∧ s8 = .pointer (some ⟨b8, 0, none⟩) ∧ wx.cell? ⟨b7, 0, none⟩ = some (.string x.name) ∧ wx.cell? ⟨b7, 1, none⟩ = some (.slice xa x.kids.length xc) ∧ wx.cell? ⟨b8, 0, none⟩ = some (.string y.name) ∧ wx.cell? ⟨b8, 1, none⟩ = some (.slice ya y.kids.length yc) ∧ Below W.heap.size W wx)
  case first =>
    go_region
    all_goals (go_wp2_with fail; go_meet)
    all_goals
      have B1 := box2 (w := W) (wr := ((W.alloc (.cells #[.string x.name, .slice xa x.kids.length xc] 29)).alloc (.cells #[.string y.name, .slice ya y.kids.length yc] 29)).drew) (cs := #[.string x.name, .slice xa x.kids.length xc]) (ds := #[.string y.name, .slice ya y.kids.length yc]) (T := 29) (U := 29) ((Below.refl _ _).drew)
      have B2 := box2 (w := W) (wr := ((W.alloc (.cells #[.string y.name, .slice ya y.kids.length yc] 29)).alloc (.cells #[.string x.name, .slice xa x.kids.length xc] 29)).drew) (cs := #[.string y.name, .slice ya y.kids.length yc]) (ds := #[.string x.name, .slice xa x.kids.length xc]) (T := 29) (U := 29) ((Below.refl _ _).drew)
      first
        | exact ⟨_, _, rfl, rfl, B1.1 0, B1.1 1, B1.2.1 0, B1.2.1 1, B1.2.2.2⟩
        | exact ⟨_, _, rfl, rfl, B2.2.1 0, B2.2.1 1, B2.1 0, B2.1 1, B2.2.2.2⟩
  case rest =>
  obtain ⟨b7, b8, rfl, rfl, u0, u1, z0, z1, hBx⟩ := hcut
  have hBw := HB.trans (hBx.mono HB.size)
  have C0x := za C0 hBx
  have HSTx := HST.below hBx
  have hvx := hvw.below hBx
  have xkx := xk.below hBx
  have ykx := yk.below hBx
  clear C0 HST hvw xk yk x0 x1 y0 y1 P0 hz1 hz2 hz3 hBx
  by_cases h0 : ((0 : Int) < (x.kids.length : Int))
  rotate_left
  · have h0b : decide ((0 : Int) < (x.kids.length : Int)) = false := by simpa using h0
    have HF : Hid (false = r) := Lib.hid (by rw [← HR.out]; have : ¬ 0 < x.kids.length := by omega
                                             simp [this])
    go_wp2_with fail
    go_ret
    exact ⟨retB HF.out, hBw⟩
  have h0b : decide ((0 : Int) < (x.kids.length : Int)) = true := by simpa using h0
  by_cases hn : x.name.toList = y.name.toList
  rotate_left
  · have HF : Hid (false = r) := Lib.hid (by rw [← HR.out]; have : ¬ x.name = y.name := fun e => hn (by rw [e])
                                             simp [this])
    go_wp2_with fail
    go_ret
    exact ⟨retB HF.out, hBw⟩
  have HT : Hid (Clo.kidsB ps c x.kids y.kids = r) := Lib.hid (by rw [← HR.out, zY.1 hn]; have : 0 < x.kids.length := by omega
                                                                  simp [this])
  have hnb : (x.name.toList == y.name.toList) = true := by rw [hn]; simp
  clear hn
  go_wp2_with fail
  refine (zdg ps c l x.kids y.kids _ _ _ _ _ _ cb _ ho hc hpos HX HY C0x HSTx hvx xkx ykx).mono ?_
  rintro e w2 ⟨rfl, hb2⟩
  rw [HT.out]
  go_wp2_with fail
  go_ret
  exact ⟨rfl, hBw.trans (hb2.mono hBw.size)⟩
theorem pair_any (ps : List Tm) (c : List Nat) (l : List Stp) (pv cv sv : Value) (cb : Nat) (w : World) (ho : Hid (Tm.Ord ps)) (hc : Hid (c.length = ps.length)) (hl : ps.length ≤ 1000000000) (hst : CloAt w cb pv c l cv sv) (hv : TmsR w ps pv) :
    Calls Tryz.prog 95 #[.pointer (some ⟨cb, 0, none⟩)] w fun e w' => e = .returned (nextV (Clo.next ps c)) ∧ Below w.heap.size w w' := by
  obtain ⟨pa, pc, rfl, hp1, hp2⟩ := hv.form
  have P0 := hst.p0
  go_enter Tryz.func95, Tryz.ntmps95
  go_wp2_with fail
  go_loopw [5, 12] (fun _ i wr => ∃ n : Nat, n ≤ ps.length ∧ i = .int .i64 n ∧ Hid (Clo.Upto ps c n) ∧ Below w.heap.size w wr) (fun _ i _ => ps.length - (intOf i).toNat)
  case atStart => exact ⟨0, Nat.zero_le _, rfl, Lib.hid (fun j hj => by omega), Below.refl _ _⟩
  case round =>
    clear P0
    obtain ⟨n, hn, rfl, hup, hB⟩ := hrel
    by_cases hlt : n < ps.length
    · go_wp2_with fail
      go_loopw [6, 16] (fun _ j wq => ∃ k : Nat, k ≤ n ∧ j = .int .i64 k ∧ Hid (Clo.Upto2 ps c n k) ∧ Below w.heap.size w wq) (fun _ j _ => n - (intOf j).toNat)
      case atStart => exact ⟨0, Nat.zero_le _, rfl, Lib.hid (fun j hj => by omega), hB⟩
      case round =>
        clear hB
        obtain ⟨k, hk, rfl, hup2, hB⟩ := hrel
        by_cases hlk : k < n
        · have hkp : k < ps.length := by omega
          have hstw := hst.below hB
          obtain ⟨g, cp, hcv, hgB, hgw, hcp⟩ := hstw.crow.form (by rw [zm, hc.out]; omega)
          rw [zm] at hcv hcp
          subst hcv
          have e0 := (IRow.cell hstw.crow (k := n) (by rw [zm, hc.out]; exact hlt)).1
          have e1 := (IRow.cell hstw.crow (k := k) (by rw [zm, hc.out]; exact hkp)).1
          rw [Clo.nats_get (by rw [hc.out]; exact hlt)] at e0
          rw [Clo.nats_get (by rw [hc.out]; exact hkp)] at e1
          have hcx : n < c.length := by rw [hc.out]; exact hlt
          have hcy : k < c.length := by rw [hc.out]; exact hkp
          have P1 := hstw.p1
          have hvw := hv.below hB
          by_cases he : Clo.cl c k = Clo.cl c n
          · have heb : (((Clo.cl c k : Nat) : Int) != ((Clo.cl c n : Nat) : Int)) = false := by rw [he]; simp
            have HE : Hid (Clo.badB ps c k n = false) := Lib.hid (Clo.bad_same he)
            clear he
            go_wp2_with fail
            have q0 := cell_regrown e0
            have q1 := cell_regrown e1
            have q2 := cell_regrown P1
            refine wp_region_quiet_below (by kernel_rfl) (by kernel_rfl) ?_
            repeat (quiet_step (fail))
            refine wpQuiet_nil ?_
            intro w2 hw2
            obtain ⟨⟨dq, osq⟩, hw2⟩ := hw2
            have hb2 : Below wr.heap.size wr w2 := hw2 ▸ below_regrown wr dq osq
            clear hw2 q0 q1 q2
            go_wp2_with fail
            go_roundw
            case rel => exact ⟨k + 1, by omega, by go_num, Lib.hid (Clo.upto2_succ hup2.out HE.out), hB.trans (hb2.mono hB.size)⟩
            case measure => simp [intOf]; omega
          · have heb : (((Clo.cl c k : Nat) : Int) != ((Clo.cl c n : Nat) : Int)) = true := by simp; omega
            have HNE := Lib.hid (fun (e : Clo.cl c k = Clo.cl c n) => he e)
            clear he
            cases hal : Clo.alikeB ps c ps[k] ps[n]
            · have HE : Hid (Clo.badB ps c k n = false) := Lib.hid (Clo.bad_no hkp hlt hal)
              have HAL := Lib.hid hal
              clear hal
              go_wp2_with fail
              have q0 := cell_regrown e0
              have q1 := cell_regrown e1
              have q2 := cell_regrown P1
              refine wp_region_quiet_below (by kernel_rfl) (by kernel_rfl) ?_
              repeat (quiet_step (with_reducible refine Calls.regrown_of (zba ps c l _ _ _ cb k n _ _ ho hc hkp hlt HAL.out (hstw.below (below_regrown _ _ _)) (hvw.below (below_regrown _ _ _)))))
              refine wpQuiet_nil ?_
              intro w2 hw2
              obtain ⟨⟨dq, osq⟩, hw2⟩ := hw2
              have hb2 : Below wr.heap.size wr w2 := hw2 ▸ below_regrown wr dq osq
              clear hw2 q0 q1 q2
              go_wp2_with fail
              go_roundw
              case rel => exact ⟨k + 1, by omega, by go_num, Lib.hid (Clo.upto2_succ hup2.out HE.out), hB.trans (hb2.mono hB.size)⟩
              case measure => simp [intOf]; omega
            · have HE := Lib.hid (Clo.next_some hup.out hup2.out hlk hlt (Clo.bad_yes hkp hlt HNE.out hal))
              have HAL := Lib.hid hal
              clear hal
              go_wp2_with fail
              have q0 := cell_regrown e0
              have q1 := cell_regrown e1
              have q2 := cell_regrown P1
              refine wp_region_quiet_below (by kernel_rfl) (by kernel_rfl) ?_
              repeat (quiet_step (with_reducible refine Calls.regrown_of (zba ps c l _ _ _ cb k n _ _ ho hc hkp hlt HAL.out (hstw.below (below_regrown _ _ _)) (hvw.below (below_regrown _ _ _)))))
              refine wpQuiet_nil ?_
              intro w2 hw2
              obtain ⟨⟨dq, osq⟩, hw2⟩ := hw2
              have hb2 : Below wr.heap.size wr w2 := hw2 ▸ below_regrown wr dq osq
              clear hw2 q0 q1 q2
              go_wp2_with fail
              (try simp only [Exit.inBlock, Exit.then])
              refine bodyPost_ret (results_tmp3 rfl _ _ _) rfl ?_
              exact ⟨by rw [HE.out]; rfl, hB.trans (hb2.mono hB.size)⟩
        · go_wp2_with fail
          go_roundw
          case rel => exact ⟨n + 1, by omega, by go_num, Lib.hid (fun j hj i hi => by
            rcases Nat.lt_or_ge j n with h | h
            · exact hup.out j h i hi
            · obtain rfl : j = n := by omega
              exact hup2.out i (by omega)), hB⟩
          case measure => simp [intOf]; omega
    · have HN := Lib.hid (Clo.next_none (ps := ps) (c := c) (fun j hj => hup.out j (by omega)))
      go_wp2_with fail
      (try simp only [Exit.inBlock, Exit.then])
      refine bodyPost_ret (results_tmp3 rfl _ _ _) rfl ?_
      exact ⟨by rw [HN.out]; rfl, hB⟩
theorem zex (ps : List Tm) (es : List Eqn) (v u : Value) (fu : List Nat) (w : World) (ho : Hid (Tm.Ord ps)) (hlp : ps.length ≤ 1000000) (hle : es.length ≤ 1000000) (hin : Hid (∀ e ∈ es, e.a ∈ ps ∧ e.b ∈ ps)) (hv : TmsR w ps v) (hu : Rd w (.sl (es.map Eqn.cd)) u fu) :
  Calls Tryz.prog 61 #[v, u] w fun e w' => e = .returned (.pointer (some ⟨w.heap.size, 0, none⟩)) ∧ ∃ cv sv, CloAt w' w.heap.size v (Clo.close ps es).1 (Clo.close ps es).2 cv sv ∧ Below w.heap.size w w' := by
 obtain ⟨pa, pc, rfl, hpc1, hpc2⟩ := hv.form
 obtain ⟨ea, ec, rfl, hec1, hec2⟩ := zc hu
 go_enter Tryz.func61, Tryz.ntmps61
 go_wp2_with fail
 go_loopw [6, 19] (fun _ i wr => ∃ (k : Nat) (cv : Value), k ≤ ps.length ∧ i = .int .i64 k ∧ CloAt wr w.heap.size (.slice pa ps.length pc) (List.range k) [] cv (.slice none 0 0) ∧ Below w.heap.size w wr) (fun _ i _ => ps.length - (intOf i).toNat)
 case atStart =>
  have hx := zt w #[.slice pa ps.length pc, .slice none 0 0, .slice none 0 0] 73
  exact ⟨0, _, Nat.zero_le _, rfl, ⟨hx 0, hx 1, hx 2, fun j => zM _ _ _ _, Own.nil _ _ _ _, Own.nil _ _ _ _, fun b hb => by simp [Value.ownBlock] at hb⟩, zb _ _⟩
 case round =>
  obtain ⟨k, cv, hk, rfl, st, hB⟩ := hrel
  by_cases hlt : k < ps.length
  ·have ALB := zb wr (.cells #[.int .i64 k] 3)
   have hown2 := Own.below st.crow ALB
   obtain ⟨ca, cn, cc, rfl⟩ := hown2.form'
   have hl : ((nats (List.range k)).map zv).length = k := by simp [nats]
   have hz := st.lt
   have P1 := st.p1
   have ST := Lib.hid st
   go_wp2_with (at_builtin; refine zp zap rfl _ _ rfl (w.heap.size + 1) _ _ _ rfl hown2 ⟨wr.heap.size, 0, none⟩ 1 1 [zv k] [.int .i64 k] [] rfl rfl ?rd ?k ?cells ?na ?bytes ?len ?base ?next)
   case rd => exact by simpa using zT [(k : Int)] (by simp; exact zae (by omega))
   case k => simp [zau]
   case cells => exact zn _ _ _
   case na => simp
   case bytes => omega
   case len => omega
   case base => simp; omega
   case next =>
    intro v' w4 hown4 hg hv' hs4
    have hm4 : Moved wr (.slice ca cn cc) w4 v' := Moved.after ALB ⟨hg, fun b hb => by simpa using hv' b hb⟩
    have hblk := hm4.block st.lt (Own.row_ne st.crow (by omega))
    have F2 : w4.frozen? ⟨w.heap.size, 1, none⟩ = false := zG hblk (st.fr 1)
    have D2 := zh hblk st.p1
    have st4 := st.class (c' := List.range (k + 1)) (by rw [zaE]; unfold IRow; simpa using hown4) hm4
    have hb4 : Below w.heap.size w (w4.setCell ⟨w.heap.size, 1, none⟩ v') := (hB.trans (hm4.toBelow (B := w.heap.size) (by omega) (fun b hb => by have := (Own.block st.crow hb).1; omega))).setCell (Nat.le_refl _) _
    obtain ⟨ta, tn, tc, rfl⟩ := hown4.form'
    clear st hown4 hm4 hg hv' hs4 P1
    go_wp2_with fail
    go_roundw
    case rel => exact ⟨k + 1, _, by omega, by go_num, st4, hb4⟩
    case measure => simp [intOf]; omega
  ·have ek : k = ps.length := by omega
   subst ek
   clear hlt hk
   have hg0 := Lib.hid (Clo.Good.start ps.length)
   go_wp2_with fail
   go_loopw [35] (fun i wq => ∃ (m : Nat) (c : List Nat) (l : List Stp) (cv sv : Value), m ≤ es.length ∧ i = .int .i64 m ∧ l.length ≤ m ∧ Hid (Clo.Gv ps es (Clo.given ps es 0 (List.range ps.length) []) m c l) ∧ Hid (Clo.Good ps.length c) ∧ CloAt wq w.heap.size (.slice pa ps.length pc) c l cv sv ∧ Below w.heap.size w wq) (fun i _ => es.length - (intOf i).toNat)
   case atStart => exact ⟨0, List.range ps.length, [], _, _, Nat.zero_le _, rfl, Nat.zero_le _, Lib.hid Clo.Gv.start, hg0, st, hB⟩
   case round =>
    clear st hg0 hB
    obtain ⟨m, c, l, cv, sv, hm, rfl, hlm, hgv, hgd, st, hB⟩ := hrel
    by_cases hlt : m < es.length
    ·obtain ⟨b, off, rfl, hbs, _⟩ := zo hu (by omega)
     obtain ⟨b1, e1, g1, b3, e3, g3, d0', d1', d2', d3', t0, t1, t2, t3, _⟩ := Eqn.at hu hlt
     have d0 := za d0' hB
     have d1 := za d1' hB
     have d2 := za d2' hB
     have d3 := za d3' hB
     have hma := hin.out es[m] (zeJ hlt)
     have hpa := (Tm.pos_yes hma.1).1
     have hpb := (Tm.pos_yes hma.2).1
     have HC : Hid (c.length = ps.length) := Lib.hid hgd.out.1
     have hz := hB.size
     have hbz : b < wr.heap.size := by omega
     go_wp2_with fail
     have HBX := zb wr (.cells #[.string es[m].a.name, .slice b1 es[m].a.kids.length e1, .string es[m].b.name, .slice b3 es[m].b.kids.length e3] 36)
     have X := zt wr #[.string es[m].a.name, .slice b1 es[m].a.kids.length e1, .string es[m].b.name, .slice b3 es[m].b.kids.length e3] 36
     have X0 := X 0
     have X1 := X 1
     have X2 := X 2
     have X3 := X 3
     simp only [zeF, zeD, zeE] at X0 X1 X2 X3
     have hB2 := hB.trans (HBX.mono hz)
     have st2 := st.below HBX
     have P0 := st2.p0
     have hvw := hv.below hB2
     have hxa : TmR _ es[m].a (.agg #[.string es[m].a.name, .slice b1 es[m].a.kids.length e1]) := TmR.mk t0 ⟨g1, t1.below hB2⟩
     have hxb : TmR _ es[m].b (.agg #[.string es[m].b.name, .slice b3 es[m].b.kids.length e3]) := TmR.mk t2 ⟨g3, t3.below hB2⟩
     clear X st hB d0 d1 d2 d3
     generalize wr.alloc (.cells #[.string es[m].a.name, .slice b1 es[m].a.kids.length e1, .string es[m].b.name, .slice b3 es[m].b.kids.length e3] 36) = W at *
     have q0 := cell_regrown X0
     have q1 := cell_regrown X1
     have q2 := cell_regrown X2
     have q3 := cell_regrown X3
     refine wp_region_quiet_below (by kernel_rfl) (by kernel_rfl) ?_
     repeat (quiet_step (first
      | (with_reducible refine Calls.regrown_of (zay ps es[m].a _ _ w.heap.size _ ho.out hma.1 ((below_regrown _ _ _).cell (World.block_lt_of_cell? _ _ P0) |>.trans P0) (hvw.below (below_regrown _ _ _)) (hxa.below (below_regrown _ _ _))))
      | (with_reducible refine Calls.regrown_of (zay ps es[m].b _ _ w.heap.size _ ho.out hma.2 ((below_regrown _ _ _).cell (World.block_lt_of_cell? _ _ P0) |>.trans P0) (hvw.below (below_regrown _ _ _)) (hxb.below (below_regrown _ _ _))))))
     refine wpQuiet_nil ?_
     intro w2 hw2
     obtain ⟨⟨dq, osq⟩, hw2⟩ := hw2
     have hb2 : Below W.heap.size W w2 := hw2 ▸ below_regrown W dq osq
     clear hw2 q0 q1 q2 q3 X0 X1 X2 X3 P0
     have st3 := st2.below hb2
     have hB3 := hB2.trans (hb2.mono hB2.size)
     have hz3 := hB3.size
     clear st2 hB2 hvw hxa hxb hb2
     obtain ⟨g, cp, rfl, hgB, hgw, hcp⟩ := st3.crow.form (by rw [zm, HC.out]; omega)
     rw [zm] at st3 hcp
     have ca := (st3.crow.cell (k := Tm.pos ps es[m].a) (by rw [zm, HC.out]; exact hpa)).1
     have cb := (st3.crow.cell (k := Tm.pos ps es[m].b) (by rw [zm, HC.out]; exact hpb)).1
     rw [Clo.nats_get (by rw [HC.out]; exact hpa)] at ca
     rw [Clo.nats_get (by rw [HC.out]; exact hpb)] at cb
     have hca : Tm.pos ps es[m].a < c.length := by rw [HC.out]; exact hpa
     have hcb : Tm.pos ps es[m].b < c.length := by rw [HC.out]; exact hpb
     have P1 := st3.p1
     have hcl : c.length ≤ 1000000 := by rw [HC.out]; exact hlp
     by_cases he : Clo.cl c (Tm.pos ps es[m].a) = Clo.cl c (Tm.pos ps es[m].b)
     ·have heb : (((Clo.cl c (Tm.pos ps es[m].a) : Nat) : Int) != ((Clo.cl c (Tm.pos ps es[m].b) : Nat) : Int)) = false := by rw [he]; simp
      have HG := Lib.hid (hgv.out.same hlt he)
      clear he
      go_wp2_with fail
      have q0 := cell_regrown ca
      have q1 := cell_regrown cb
      have q2 := cell_regrown P1
      refine wp_region_quiet_below (by kernel_rfl) (by kernel_rfl) ?_
      repeat (quiet_step (fail))
      refine wpQuiet_nil ?_
      intro w4 hw4
      obtain ⟨⟨dq, osq⟩, hw4⟩ := hw4
      have hb4 : Below w2.heap.size w2 w4 := hw4 ▸ below_regrown w2 dq osq
      clear hw4 q0 q1 q2
      go_wp2_with fail
      go_roundw
      case rel => exact ⟨m + 1, c, l, _, _, by omega, by go_num, by omega, HG, hgd, st3.below hb4, hB3.trans (hb4.mono hz3)⟩
      case measure => simp [intOf]; omega
     ·have heb : (((Clo.cl c (Tm.pos ps es[m].a) : Nat) : Int) != ((Clo.cl c (Tm.pos ps es[m].b) : Nat) : Int)) = true := by simp; omega
      have HG := Lib.hid (hgv.out.new hlt he)
      have hgj := Lib.hid (hgd.out.join hpa hpb)
      clear he
      go_wp2_with fail
      have q0 := cell_regrown ca
      have q1 := cell_regrown cb
      have q2 := cell_regrown P1
      refine wp_region_quiet_below (by kernel_rfl) (by kernel_rfl) ?_
      repeat (quiet_step (fail))
      refine wpQuiet_nil ?_
      intro w4 hw4
      obtain ⟨⟨dq, osq⟩, hw4⟩ := hw4
      have hb4 : Below w2.heap.size w2 w4 := hw4 ▸ below_regrown w2 dq osq
      clear hw4 q0 q1 q2 ca cb P1
      have st4 := st3.below hb4
      have hB4 := hB3.trans (hb4.mono hz3)
      clear st3 hB3 hb4
      go_wp2_with fail
      refine (zdh c l _ _ _ w.heap.size _ _ (m : Nat) _ (zae (by omega)) (fun i hi => by
        have hi' : i < ps.length := by rw [← HC.out]; exact hi
        have := (hgd.out.2 i hi').1
        omega) (by omega) (by omega) hca hcb st4).mono ?_
      rintro e w5 ⟨rfl, cv', sv', st5, hb5⟩
      go_wp2_with fail
      go_roundw
      case rel => exact ⟨m + 1, _, _, cv', sv', by omega, by go_num, by simp; omega, HG, hgj, st5, hB4.trans hb5⟩
      case measure => simp [intOf]; omega
    ·have em : m = es.length := by omega
     subst em
     clear hlt hm
     have HAT : Hid (Clo.At ps (Clo.close ps es) c l) := Lib.hid (by rw [Clo.close_eq, hgv.out.stop (Nat.le_refl _)]; exact Clo.At.start)
     clear hgv
     have hlc : Hid (l.length + Clo.roots ps.length c ≤ es.length + ps.length) := Lib.hid (by have := Clo.roots_le ps.length c; omega)
     go_wp2_with fail
     go_loopw [11, 12, 13] (fun _ _ _ wq => ∃ (c : List Nat) (l : List Stp) (cv sv : Value), Hid (Clo.At ps (Clo.close ps es) c l) ∧ Hid (l.length + Clo.roots ps.length c ≤ es.length + ps.length) ∧ Hid (Clo.Good ps.length c) ∧ CloAt wq w.heap.size (.slice pa ps.length pc) c l cv sv ∧ Below w.heap.size w wq) (fun _ _ _ wq => es.length + ps.length - zd6 ((wq.cell? ⟨w.heap.size, 2, none⟩).getD (.bool false)))
     case atStart => exact ⟨c, l, cv, sv, HAT, hlc, hgd, st, hB⟩
     case round =>
      clear st hB HAT hlc hgd
      obtain ⟨c, l, cv, sv, hat, hlc, hgd, st, hB⟩ := hrel
      have HC : Hid (c.length = ps.length) := Lib.hid hgd.out.1
      have hvw := hv.below hB
      have hz := hB.size
      go_wp2_with fail
      refine (pair_any ps c l _ _ _ w.heap.size _ ho HC (by omega) st hvw).mono ?_
      rintro e w2 ⟨rfl, hb2⟩
      have st2 := st.below hb2
      have hB2 := hB.trans (hb2.mono hz)
      have hp2 := za st.p2 hb2
      obtain ⟨na, nb, nm, hnv, hnx⟩ := zbi (Clo.next ps c)
      rw [hnv]
      clear hnv
      have hp2' := st.p2
      have hln := st.srow.form
      clear hvw
      cases nm
      ·have HR := Lib.hid (hat.out.stop hnx)
       clear hnx
       go_wp2_with fail
       go_ret
       exact ⟨rfl, _, _, by rw [HR.out]; exact st2, hB2⟩
      ·have hstep := hat.out.step hgd.out hnx
       have hab := Clo.next_spec hnx
       have HAT := Lib.hid hstep.1
       have HGD := Lib.hid hstep.2.1
       have hrt := hstep.2.2
       have hlo := hlc.out
       have hlb : l.length < es.length + ps.length := by omega
       have HLC : Hid ((l ++ [(⟨na, nb, -1⟩ : Stp)]).length + Clo.roots ps.length (Clo.join c na nb) ≤ es.length + ps.length) := Lib.hid (by simp; omega)
       clear hat hlc hrt hlo hstep hnx
       have hnb := hab.2.1
       have hna : na < ps.length := by omega
       clear hab
       have hca : na < c.length := by rw [HC.out]; exact hna
       have hcb : nb < c.length := by rw [HC.out]; exact hnb
       have hcl : c.length ≤ 1000000 := by rw [HC.out]; exact hlp
       go_wp2_with fail
       refine (zdh c l _ _ _ w.heap.size _ _ (-1) _ (by constructor <;> omega) (fun i hi => by
        have hi' : i < ps.length := by rw [← HC.out]; exact hi
        have := (hgd.out.2 i hi').1
        omega) (by omega) (by omega) hca hcb st2).mono ?_
       rintro e w5 ⟨rfl, cv', sv', st5, hb5⟩
       go_wp2_with fail
       go_roundw
       case rel => exact ⟨_, _, cv', sv', HAT, HLC, HGD, st5, hB2.trans hb5⟩
       case measure =>
        obtain ⟨s1, s2, rfl, _, _⟩ := hln
        obtain ⟨s3, s4, rfl, _, _⟩ := st5.srow.form
        rw [st5.p2, st.p2]
        simp only [Option.getD_some, zd6, zeN, zeK, List.length_cons, List.length_nil]
        omega
end Go.Proofs.YtlefdhhnlbpbkaaGreat
end
