/- The program's closure of equations. -/
import Derived.Lib.Hide
import Derived.OwnWalk
import Derived.Test.YtblbommhodondaaCloJ
namespace Go.Proofs.Ytblbommhodondaa
open Go Go.RowKit
set_option linter.unusedVariables false
set_option linter.unusedSimpArgs false
set_option maxHeartbeats 8000000 in
theorem closed_any (ps : List Tm) (es : List Eqn) (v u : Value) (fu : List Nat) (w : World) (ho : Hid (Tm.Ord ps)) (hlp : ps.length ≤ 1000000) (hle : es.length ≤ 1000000) (hin : Hid (∀ e ∈ es, e.a ∈ ps ∧ e.b ∈ ps)) (hv : TmsR w ps v) (hu : Rd w (.sl (es.map Eqn.cd)) u fu) :
    Calls Try.prog 91 #[v, u] w fun e w' => e = .returned (.pointer (some ⟨w.heap.size, 0, none⟩)) ∧ ∃ cv sv, CloAt w' w.heap.size v (Clo.close ps es).1 (Clo.close ps es).2 cv sv ∧ Below w.heap.size w w' := by
  obtain ⟨pa, pc, rfl, hpc1, hpc2⟩ := hv.form
  obtain ⟨ea, ec, rfl, hec1, hec2⟩ := rd_sl_inv hu
  go_enter Try.func91, Try.ntmps91
  go_wp2_with fail
  go_loopw [6, 19] (fun _ i wr => ∃ (k : Nat) (cv : Value), k ≤ ps.length ∧ i = .int .i64 k ∧ CloAt wr w.heap.size (.slice pa ps.length pc) (List.range k) [] cv (.slice none 0 0) ∧ Below w.heap.size w wr) (fun _ i _ => ps.length - (intOf i).toNat)
  case atStart =>
    have hx := cell_new w #[.slice pa ps.length pc, .slice none 0 0, .slice none 0 0] 95
    exact ⟨0, _, Nat.zero_le _, rfl, ⟨hx 0, hx 1, hx 2, fun j => free_new _ _ _ _, Own.nil _ _ _ _, Own.nil _ _ _ _, fun b hb => by simp [Value.ownBlock] at hb⟩, below_alloc _ _⟩
  case round =>
    obtain ⟨k, cv, hk, rfl, st, hB⟩ := hrel
    by_cases hlt : k < ps.length
    · have ALB := below_alloc wr (.cells #[.int .i64 k] 3)
      have hown2 := Own.below st.crow ALB
      obtain ⟨ca, cn, cc, rfl⟩ := hown2.form'
      have hl : ((nats (List.range k)).map intCd).length = k := by simp [nats]
      have hz := st.lt
      have P1 := st.p1
      have ST := Lib.hid st
      go_wp2_with (at_builtin; refine wpList_app slTyIntS rfl _ _ rfl (w.heap.size + 1) _ _ _ rfl hown2 ⟨wr.heap.size, 0, none⟩ 1 1 [intCd k] [.int .i64 k] [] rfl rfl ?rd ?k ?cells ?na ?bytes ?len ?base ?next)
      case rd => exact by simpa using ints_rdv_mk [(k : Int)] (by simp; exact I64_nat (by omega))
      case k => simp [intCd_len]
      case cells => exact cells_new _ _ _
      case na => simp
      case bytes => omega
      case len => omega
      case base => simp; omega
      case next =>
        intro v' w4 hown4 hg hv' hs4
        have hm4 : Moved wr (.slice ca cn cc) w4 v' := Moved.after ALB ⟨hg, fun b hb => by simpa using hv' b hb⟩
        have hblk := hm4.block st.lt (Own.row_ne st.crow (by omega))
        have F2 : w4.frozen? ⟨w.heap.size, 1, none⟩ = false := free_block hblk (st.fr 1)
        have D2 := cell_block hblk st.p1
        have st4 := st.class (c' := List.range (k + 1)) (by rw [nats_range_succ]; unfold IRow; simpa using hown4) hm4
        have hb4 : Below w.heap.size w (w4.setCell ⟨w.heap.size, 1, none⟩ v') := (hB.trans (hm4.toBelow (B := w.heap.size) (by omega) (fun b hb => by have := (Own.block st.crow hb).1; omega))).setCell (Nat.le_refl _) _
        obtain ⟨ta, tn, tc, rfl⟩ := hown4.form'
        clear st hown4 hm4 hg hv' hs4 P1
        go_wp2_with fail
        go_roundw
        case rel => exact ⟨k + 1, _, by omega, by go_num, st4, hb4⟩
        case measure => simp [intOf]; omega
    · have ek : k = ps.length := by omega
      subst ek
      clear hlt hk
      have hg0 := Lib.hid (Clo.Good.start ps.length)
      go_wp2_with fail
      go_loopw [35] (fun i wq => ∃ (m : Nat) (c : List Nat) (l : List Stp) (cv sv : Value), m ≤ es.length ∧ i = .int .i64 m ∧ l.length ≤ m ∧ Hid (Clo.Gv ps es (Clo.given ps es 0 (List.range ps.length) []) m c l) ∧ Hid (Clo.Good ps.length c) ∧ CloAt wq w.heap.size (.slice pa ps.length pc) c l cv sv ∧ Below w.heap.size w wq) (fun i _ => es.length - (intOf i).toNat)
      case atStart => exact ⟨0, List.range ps.length, [], _, _, Nat.zero_le _, rfl, Nat.zero_le _, Lib.hid Clo.Gv.start, hg0, st, hB⟩
      case round =>
        clear st hg0 hB
        obtain ⟨m, c, l, cv, sv, hm, rfl, hlm, hgv, hgd, st, hB⟩ := hrel
        by_cases hlt : m < es.length
        · obtain ⟨b, off, rfl, hbs, _⟩ := rd_addr hu (by omega)
          obtain ⟨b1, e1, g1, b3, e3, g3, d0', d1', d2', d3', t0, t1, t2, t3, _⟩ := Eqn.at hu hlt
          have d0 := cell_keep d0' hB
          have d1 := cell_keep d1' hB
          have d2 := cell_keep d2' hB
          have d3 := cell_keep d3' hB
          have hma := hin.out es[m] (List.getElem_mem hlt)
          have hpa := (Tm.pos_yes hma.1).1
          have hpb := (Tm.pos_yes hma.2).1
          have HC : Hid (c.length = ps.length) := Lib.hid hgd.out.1
          have hz := hB.size
          have hbz : b < wr.heap.size := by omega
          go_wp2_with fail
          have HBX := below_alloc wr (.cells #[.string es[m].a.name, .slice b1 es[m].a.kids.length e1, .string es[m].b.name, .slice b3 es[m].b.kids.length e3] 41)
          have X := cell_new wr #[.string es[m].a.name, .slice b1 es[m].a.kids.length e1, .string es[m].b.name, .slice b3 es[m].b.kids.length e3] 41
          have X0 := X 0
          have X1 := X 1
          have X2 := X 2
          have X3 := X 3
          simp only [List.getElem?_toArray, List.getElem?_cons_zero, List.getElem?_cons_succ] at X0 X1 X2 X3
          have hB2 := hB.trans (HBX.mono hz)
          have st2 := st.below HBX
          have P0 := st2.p0
          have hvw := hv.below hB2
          have hxa : TmR _ es[m].a (.agg #[.string es[m].a.name, .slice b1 es[m].a.kids.length e1]) := TmR.mk t0 ⟨g1, t1.below hB2⟩
          have hxb : TmR _ es[m].b (.agg #[.string es[m].b.name, .slice b3 es[m].b.kids.length e3]) := TmR.mk t2 ⟨g3, t3.below hB2⟩
          clear X st hB d0 d1 d2 d3
          generalize wr.alloc (.cells #[.string es[m].a.name, .slice b1 es[m].a.kids.length e1, .string es[m].b.name, .slice b3 es[m].b.kids.length e3] 41) = W at *
          have q0 := cell_regrown X0
          have q1 := cell_regrown X1
          have q2 := cell_regrown X2
          have q3 := cell_regrown X3
          refine wp_region_quiet_below (by kernel_rfl) (by kernel_rfl) ?_
          repeat (quiet_step (first
            | (with_reducible refine Calls.regrown_of (cloAt_any ps es[m].a _ _ w.heap.size _ ho.out hma.1 ((below_regrown _ _ _).cell (World.block_lt_of_cell? _ _ P0) |>.trans P0) (hvw.below (below_regrown _ _ _)) (hxa.below (below_regrown _ _ _))))
            | (with_reducible refine Calls.regrown_of (cloAt_any ps es[m].b _ _ w.heap.size _ ho.out hma.2 ((below_regrown _ _ _).cell (World.block_lt_of_cell? _ _ P0) |>.trans P0) (hvw.below (below_regrown _ _ _)) (hxb.below (below_regrown _ _ _))))))
          refine wpQuiet_nil ?_
          intro w2 hw2
          obtain ⟨⟨dq, osq⟩, hw2⟩ := hw2
          have hb2 : Below W.heap.size W w2 := hw2 ▸ below_regrown W dq osq
          clear hw2 q0 q1 q2 q3 X0 X1 X2 X3 P0
          have st3 := st2.below hb2
          have hB3 := hB2.trans (hb2.mono hB2.size)
          have hz3 := hB3.size
          clear st2 hB2 hvw hxa hxb hb2
          obtain ⟨g, cp, rfl, hgB, hgw, hcp⟩ := st3.crow.form (by rw [nats_len, HC.out]; omega)
          rw [nats_len] at st3 hcp
          have ca := (st3.crow.cell (k := Tm.pos ps es[m].a) (by rw [nats_len, HC.out]; exact hpa)).1
          have cb := (st3.crow.cell (k := Tm.pos ps es[m].b) (by rw [nats_len, HC.out]; exact hpb)).1
          rw [Clo.nats_get (by rw [HC.out]; exact hpa)] at ca
          rw [Clo.nats_get (by rw [HC.out]; exact hpb)] at cb
          have hca : Tm.pos ps es[m].a < c.length := by rw [HC.out]; exact hpa
          have hcb : Tm.pos ps es[m].b < c.length := by rw [HC.out]; exact hpb
          have P1 := st3.p1
          have hcl : c.length ≤ 1000000 := by rw [HC.out]; exact hlp
          by_cases he : Clo.cl c (Tm.pos ps es[m].a) = Clo.cl c (Tm.pos ps es[m].b)
          · have heb : (((Clo.cl c (Tm.pos ps es[m].a) : Nat) : Int) != ((Clo.cl c (Tm.pos ps es[m].b) : Nat) : Int)) = false := by rw [he]; simp
            have HG := Lib.hid (hgv.out.same hlt he)
            clear he
            go_wp2_with fail
            have q0 := cell_regrown ca
            have q1 := cell_regrown cb
            have q2 := cell_regrown P1
            refine wp_region_quiet_below (by kernel_rfl) (by kernel_rfl) ?_
            repeat (quiet_step (fail))
            refine wpQuiet_nil ?_
            intro w4 hw4
            obtain ⟨⟨dq, osq⟩, hw4⟩ := hw4
            have hb4 : Below w2.heap.size w2 w4 := hw4 ▸ below_regrown w2 dq osq
            clear hw4 q0 q1 q2
            go_wp2_with fail
            go_roundw
            case rel => exact ⟨m + 1, c, l, _, _, by omega, by go_num, by omega, HG, hgd, st3.below hb4, hB3.trans (hb4.mono hz3)⟩
            case measure => simp [intOf]; omega
          · have heb : (((Clo.cl c (Tm.pos ps es[m].a) : Nat) : Int) != ((Clo.cl c (Tm.pos ps es[m].b) : Nat) : Int)) = true := by simp; omega
            have HG := Lib.hid (hgv.out.new hlt he)
            have hgj := Lib.hid (hgd.out.join hpa hpb)
            clear he
            go_wp2_with fail
            have q0 := cell_regrown ca
            have q1 := cell_regrown cb
            have q2 := cell_regrown P1
            refine wp_region_quiet_below (by kernel_rfl) (by kernel_rfl) ?_
            repeat (quiet_step (fail))
            refine wpQuiet_nil ?_
            intro w4 hw4
            obtain ⟨⟨dq, osq⟩, hw4⟩ := hw4
            have hb4 : Below w2.heap.size w2 w4 := hw4 ▸ below_regrown w2 dq osq
            clear hw4 q0 q1 q2 ca cb P1
            have st4 := st3.below hb4
            have hB4 := hB3.trans (hb4.mono hz3)
            clear st3 hB3 hb4
            go_wp2_with fail
            refine (merge_any c l _ _ _ w.heap.size _ _ (m : Nat) _ (I64_nat (by omega)) (fun i hi => by
                have hi' : i < ps.length := by rw [← HC.out]; exact hi
                have := (hgd.out.2 i hi').1
                omega) (by omega) (by omega) hca hcb st4).mono ?_
            rintro e w5 ⟨rfl, cv', sv', st5, hb5⟩
            go_wp2_with fail
            go_roundw
            case rel => exact ⟨m + 1, _, _, cv', sv', by omega, by go_num, by simp; omega, HG, hgj, st5, hB4.trans hb5⟩
            case measure => simp [intOf]; omega
        · have em : m = es.length := by omega
          subst em
          clear hlt hm
          have HAT : Hid (Clo.At ps (Clo.close ps es) c l) := Lib.hid (by rw [Clo.close_eq, hgv.out.stop (Nat.le_refl _)]; exact Clo.At.start)
          clear hgv
          have hlc : Hid (l.length + Clo.roots ps.length c ≤ es.length + ps.length) := Lib.hid (by have := Clo.roots_le ps.length c; omega)
          go_wp2_with fail
          go_loopw [11, 12, 13] (fun _ _ _ wq => ∃ (c : List Nat) (l : List Stp) (cv sv : Value), Hid (Clo.At ps (Clo.close ps es) c l) ∧ Hid (l.length + Clo.roots ps.length c ≤ es.length + ps.length) ∧ Hid (Clo.Good ps.length c) ∧ CloAt wq w.heap.size (.slice pa ps.length pc) c l cv sv ∧ Below w.heap.size w wq) (fun _ _ _ wq => es.length + ps.length - slLen ((wq.cell? ⟨w.heap.size, 2, none⟩).getD (.bool false)))
          case atStart => exact ⟨c, l, cv, sv, HAT, hlc, hgd, st, hB⟩
          case round =>
            clear st hB HAT hlc hgd
            obtain ⟨c, l, cv, sv, hat, hlc, hgd, st, hB⟩ := hrel
            have HC : Hid (c.length = ps.length) := Lib.hid hgd.out.1
            have hvw := hv.below hB
            have hz := hB.size
            go_wp2_with fail
            refine (pair_any ps c l _ _ _ w.heap.size _ ho HC (by omega) st hvw).mono ?_
            rintro e w2 ⟨rfl, hb2⟩
            have st2 := st.below hb2
            have hB2 := hB.trans (hb2.mono hz)
            have hp2 := cell_keep st.p2 hb2
            obtain ⟨na, nb, nm, hnv, hnx⟩ := nextV_form (Clo.next ps c)
            rw [hnv]
            clear hnv
            have hp2' := st.p2
            have hln := st.srow.form
            clear hvw
            cases nm
            · have HR := Lib.hid (hat.out.stop hnx)
              clear hnx
              go_wp2_with fail
              go_ret
              exact ⟨rfl, _, _, by rw [HR.out]; exact st2, hB2⟩
            · have hstep := hat.out.step hgd.out hnx
              have hab := Clo.next_spec hnx
              have HAT := Lib.hid hstep.1
              have HGD := Lib.hid hstep.2.1
              have hrt := hstep.2.2
              have hlo := hlc.out
              have hlb : l.length < es.length + ps.length := by omega
              have HLC : Hid ((l ++ [(⟨na, nb, -1⟩ : Stp)]).length + Clo.roots ps.length (Clo.join c na nb) ≤ es.length + ps.length) := Lib.hid (by simp; omega)
              clear hat hlc hrt hlo hstep hnx
              have hnb := hab.2.1
              have hna : na < ps.length := by omega
              clear hab
              have hca : na < c.length := by rw [HC.out]; exact hna
              have hcb : nb < c.length := by rw [HC.out]; exact hnb
              have hcl : c.length ≤ 1000000 := by rw [HC.out]; exact hlp
              go_wp2_with fail
              refine (merge_any c l _ _ _ w.heap.size _ _ (-1) _ (by constructor <;> omega) (fun i hi => by
                have hi' : i < ps.length := by rw [← HC.out]; exact hi
                have := (hgd.out.2 i hi').1
                omega) (by omega) (by omega) hca hcb st2).mono ?_
              rintro e w5 ⟨rfl, cv', sv', st5, hb5⟩
              go_wp2_with fail
              go_roundw
              case rel => exact ⟨_, _, cv', sv', HAT, HLC, HGD, st5, hB2.trans hb5⟩
              case measure =>
                obtain ⟨s1, s2, rfl, _, _⟩ := hln
                obtain ⟨s3, s4, rfl, _, _⟩ := st5.srow.form
                rw [st5.p2, st.p2]
                simp only [Option.getD_some, slLen, List.length_map, List.length_append, List.length_cons, List.length_nil]
                omega
end Go.Proofs.Ytblbommhodondaa
