/- Parts of the proof: CloT. -/
import Derived.Test.YtlefdhhnlbpbkaaGreatPv14
section
namespace Go.Proofs.YtlefdhhnlbpbkaaGreat
open Go Go.RowKit
set_option linter.unusedVariables false
set_option linter.unusedSimpArgs false
set_option maxRecDepth 100000
set_option maxHeartbeats 16000000
/-- Two rows that the call has made: the classes, the steps. -/
structure RunAt (w wr : World) (c : List Nat) (st : List Stp) (cv sv : Value) : Prop where
 crow : IRow wr w.heap.size cv (nats c)
 srow : Own wr w.heap.size 113 3 sv (st.map Stp.cd) []
 dis : ∀ b, cv.ownBlock = some b → sv.ownBlock ≠ some b
 bel : Below w.heap.size w wr
theorem RunAt.below {w wr w2 : World} {c : List Nat} {st : List Stp} {cv sv : Value} (h : RunAt w wr c st cv sv) (hb : Below wr.heap.size wr w2) : RunAt w w2 c st cv sv :=
 ⟨h.crow.below hb, h.srow.below hb, h.dis, h.bel.trans (hb.mono h.bel.size)⟩
theorem RunAt.class {w wr w2 : World} {c c' : List Nat} {st : List Stp} {cv cv' sv : Value} (h : RunAt w wr c st cv sv) (hr : IRow w2 w.heap.size cv' (nats c')) (hm : Moved wr cv w2 cv') : RunAt w w2 c' st cv' sv := by
 refine ⟨hr, h.srow.same (fun b hb => by simp at hb) (fun b hb => hm.block (h.srow.block hb).2 (fun e => h.dis b e hb)), fun b hb e => ?_, h.bel.trans (hm.toBelow h.bel.size (fun b hb => (Own.block h.crow hb).1))⟩
 rcases hm.2 b hb with h1 | h1
 ·exact h.dis b h1 e
 ·have := (h.srow.block e).2; omega
theorem RunAt.steps {w wr w2 : World} {c : List Nat} {st st' : List Stp} {cv sv sv' : Value} (h : RunAt w wr c st cv sv) (hr : Own w2 w.heap.size 113 3 sv' (st'.map Stp.cd) []) (hm : Moved wr sv w2 sv') : RunAt w w2 c st' cv sv' := by
 refine ⟨Own.same h.crow (fun b hb => by simp at hb) (fun b hb => hm.block (Own.block h.crow hb).2 (fun e => h.dis b hb e)), hr, fun b hb e => ?_, h.bel.trans (hm.toBelow h.bel.size (fun b hb => (h.srow.block hb).1))⟩
 rcases hm.2 b e with h1 | h1
 ·exact h.dis b hb h1
 ·have := (Own.block h.crow hb).2; omega
def slLen : Value → Nat
 | .slice _ n _ => n
 | _ => 0
theorem Own.len {w : World} {base e k n cap : Nat} {a : Option Addr} {es : List (List CD)} {fp : List Nat} (h : Own w base e k (.slice a n cap) es fp) : n = es.length := by
 obtain ⟨a', c', h, _⟩ := h.form
 simp only [Value.slice.injEq] at h
 exact h.2.1
/-- The next pair, as it comes back. -/
def NextIs (o : Option (Nat × Nat)) (a b : Nat) (m : Bool) : Prop := match m with
 | true => o = some (a, b)
 | false => o = none
theorem zb7 (o : Option (Nat × Nat)) : ∃ (a b : Nat) (m : Bool), nextV o = .tuple #[.int .i64 a, .int .i64 b, .bool m] ∧ NextIs o a b m := by
 cases o with
 | none => exact ⟨0, 0, false, rfl, rfl⟩
 | some p => exact ⟨p.1, p.2, true, rfl, rfl⟩
theorem zbx (k : Nat) : nats (List.range (k + 1)) = nats (List.range k) ++ [(k : Int)] := by simp [nats, List.range_succ]
theorem zby (ps : List Tm) (es : List Eqn) (v u : Value) (fu : List Nat) (w : World) (ho : Tm.Ord ps) (hlp : ps.length ≤ 1000000) (hle : es.length ≤ 1000000) (hin : ∀ e ∈ es, e.a ∈ ps ∧ e.b ∈ ps) (hv : TmsR w ps v) (hu : Rd w (.sl (es.map Eqn.cd)) u fu) :
  Calls Tryz.prog 48 #[v, u] w fun e w' => ∃ sv cv, e = .returned (.tuple #[sv, cv]) ∧ RunAt w w' (Clo.close ps es).1 (Clo.close ps es).2 cv sv := by
 obtain ⟨pa, pc, rfl, hpc1, hpc2⟩ := hv.form
 obtain ⟨ea, ec, rfl, hec1, hec2⟩ := zd hu
 have HO := Lib.hid ho
 have HIN := Lib.hid hin
 clear ho hin
 go_enter Tryz.func48, Tryz.ntmps48
 go_wp2_with fail
 go_loopw [6, 8] (fun cv i wr => ∃ k : Nat, k ≤ ps.length ∧ i = .int .i64 k ∧ RunAt w wr (List.range k) [] cv (.slice (some ⟨w.heap.size + 1, 0, none⟩) 0 0)) (fun _ i _ => ps.length - (intOf i).toNat)
 case atStart =>
  have o1 := (Own.empty w w.heap.size 3 1 (Nat.le_refl _)).below (zb (w.alloc (.cells #[] 3)) (.cells #[] 113))
  have o2 := Own.empty (w.alloc (.cells #[] 3)) w.heap.size 113 3 (by simp)
  rw [show (w.alloc (.cells #[] 3)).heap.size = w.heap.size + 1 from by simp] at o2
  exact ⟨0, Nat.zero_le _, rfl, o1, o2, fun b hb e => by simp [Value.ownBlock] at hb e; omega, ((Below.refl _ _).alloc (Nat.le_refl _) _).alloc (by simp) _⟩
 case round =>
  obtain ⟨k, hk, rfl, st⟩ := hrel
  by_cases hlt : k < ps.length
  ·have ALB := zb wr (.cells #[.int .i64 k] 3)
   have hown2 := Own.below st.crow ALB
   obtain ⟨ca, cn, cc, rfl⟩ := hown2.form'
   have hl : ((nats (List.range k)).map zk).length = k := by simp [nats]
   have hz := st.bel.size
   have ST := Lib.hid st
   clear st
   go_wp2_with (at_builtin; refine zp zB rfl _ _ rfl w.heap.size _ _ _ rfl hown2 ⟨wr.heap.size, 0, none⟩ 1 1 [zk k] [.int .i64 k] [] rfl rfl ?rd ?k ?cells ?na ?bytes ?len ?base ?next)
   case rd => exact by simpa using zX [(k : Int)] (by simp; exact zaA (by omega))
   case k => simp [zaz]
   case cells => exact zn _ _ _
   case na => simp
   case bytes => omega
   case len => omega
   case base => simp; omega
   case next =>
    intro v' w4 hown4 hg hv' hs4
    have st4 := ST.out.class (c' := List.range (k + 1)) (by rw [zbx]; unfold IRow; simpa using hown4) (Moved.after ALB ⟨hg, fun b hb => by simpa using hv' b hb⟩)
    go_wp2_with fail
    go_roundw
    case rel => exact ⟨k + 1, by omega, by go_num, st4⟩
    case measure => simp [intOf]; omega
  ·have ek : k = ps.length := by omega
   subst ek
   clear hlt hk
   have hg0 := Lib.hid (Clo.Good.start ps.length)
   go_wp2_with fail
   go_loopw [6, 7, 9] (fun cv sv i wq => ∃ (m : Nat) (c : List Nat) (l : List Stp), m ≤ es.length ∧ i = .int .i64 m ∧ l.length ≤ m ∧ Hid (Clo.Gv ps es (Clo.given ps es 0 (List.range ps.length) []) m c l) ∧ Hid (Clo.Good ps.length c) ∧ RunAt w wq c l cv sv) (fun _ _ i _ => es.length - (intOf i).toNat)
   case atStart => exact ⟨0, List.range ps.length, [], Nat.zero_le _, rfl, Nat.zero_le _, Lib.hid Clo.Gv.start, hg0, st⟩
   case round =>
    clear st hg0
    obtain ⟨m, c, l, hm, rfl, hlm, hgv, hgd, st⟩ := hrel
    by_cases hlt : m < es.length
    ·obtain ⟨b, off, rfl, hbs, _⟩ := zm hu (by omega)
     obtain ⟨b1, e1, g1, b3, e3, g3, d0', d1', d2', d3', t0, t1, t2, t3, _⟩ := Eqn.at hu hlt
     have d0 := za d0' st.bel
     have d1 := za d1' st.bel
     have hma := HIN.out es[m] (zes hlt)
     have hpa := (Tm.pos_yes hma.1).1
     have hpb := (Tm.pos_yes hma.2).1
     have HC : Hid (c.length = ps.length) := Lib.hid hgd.out.1
     have hz := st.bel.size
     have hbz : b < wr.heap.size := by omega
     have hvw := hv.below st.bel
     go_wp2_with fail
     refine (zC ps es[m].a _ _ _ HO.out hma.1 hvw (TmR.mk t0 ⟨g1, t1.below st.bel⟩)).mono ?_
     rintro e w2 ⟨rfl, hb2⟩
     have st2 := st.below hb2
     have d2 := za d2' st2.bel
     have d3 := za d3' st2.bel
     have hz2 := st2.bel.size
     have hbz2 : b < w2.heap.size := by omega
     have hvw2 := hv.below st2.bel
     clear st hvw hb2 d0 d1
     go_wp2_with fail
     refine (zC ps es[m].b _ _ _ HO.out hma.2 hvw2 (TmR.mk t2 ⟨g3, t3.below st2.bel⟩)).mono ?_
     rintro e w3 ⟨rfl, hb3⟩
     have st3 := st2.below hb3
     clear st2 hvw2 hb3 d2 d3
     obtain ⟨g, cp, rfl, hgB, hgw, hcp⟩ := st3.crow.form (by rw [zt, HC.out]; omega)
     rw [zt] at st3 hcp ⊢
     have ca := (st3.crow.cell (k := Tm.pos ps es[m].a) (by rw [zt, HC.out]; exact hpa)).1
     have cb := (st3.crow.cell (k := Tm.pos ps es[m].b) (by rw [zt, HC.out]; exact hpb)).1
     rw [Clo.nats_get (by rw [HC.out]; exact hpa)] at ca
     rw [Clo.nats_get (by rw [HC.out]; exact hpb)] at cb
     have hca : Tm.pos ps es[m].a < c.length := by rw [HC.out]; exact hpa
     have hcb : Tm.pos ps es[m].b < c.length := by rw [HC.out]; exact hpb
     by_cases he : Clo.cl c (Tm.pos ps es[m].a) = Clo.cl c (Tm.pos ps es[m].b)
     ·have heb : (((Clo.cl c (Tm.pos ps es[m].a) : Nat) : Int) != ((Clo.cl c (Tm.pos ps es[m].b) : Nat) : Int)) = false := by rw [he]; simp
      have HG := Lib.hid (hgv.out.same hlt he)
      clear he
      go_wp2_with fail
      have q0 := cell_regrown ca
      have q1 := cell_regrown cb
      refine wp_region_quiet_below (by kernel_rfl) (by kernel_rfl) ?_
      repeat (quiet_step (fail))
      refine wpQuiet_nil ?_
      intro w4 hw4
      obtain ⟨⟨dq, osq⟩, hw4⟩ := hw4
      have hb4 : Below w3.heap.size w3 w4 := hw4 ▸ below_regrown w3 dq osq
      clear hw4 q0 q1
      go_wp2_with fail
      go_roundw
      case rel => exact ⟨m + 1, c, l, by omega, by go_num, by omega, HG, hgd, st3.below hb4⟩
      case measure => simp [intOf]; omega
     ·have heb : (((Clo.cl c (Tm.pos ps es[m].a) : Nat) : Int) != ((Clo.cl c (Tm.pos ps es[m].b) : Nat) : Int)) = true := by simp; omega
      have HG := Lib.hid (hgv.out.new hlt he)
      have hgj := Lib.hid (hgd.out.join hpa hpb)
      clear he
      go_wp2_with fail
      have q0 := cell_regrown ca
      have q1 := cell_regrown cb
      refine wp_region_quiet_below (by kernel_rfl) (by kernel_rfl) ?_
      repeat (quiet_step (fail))
      refine wpQuiet_nil ?_
      intro w4 hw4
      obtain ⟨⟨dq, osq⟩, hw4⟩ := hw4
      have hb4 : Below w3.heap.size w3 w4 := hw4 ▸ below_regrown w3 dq osq
      clear hw4 q0 q1
      have st4 := st3.below hb4
      have hz4 := st4.bel.size
      clear st3 hb4 ca cb
      have ALB := zb w4 (.cells #[.int .i64 (Tm.pos ps es[m].a : Nat), .int .i64 (Tm.pos ps es[m].b : Nat), .int .i64 m] 113)
      have hown := (st4.below ALB).srow
      obtain ⟨sa, sn, sc, rfl⟩ := hown.form'
      have hll : (l.map Stp.cd).length ≤ 1000000 := by simp; omega
      go_wp2_with (at_builtin; refine zp zcO rfl _ _ rfl w.heap.size _ _ _ rfl hown ⟨w4.heap.size, 0, none⟩ 1 1 [Stp.cd ⟨(Tm.pos ps es[m].a : Nat), (Tm.pos ps es[m].b : Nat), m⟩] [.int .i64 (Tm.pos ps es[m].a : Nat), .int .i64 (Tm.pos ps es[m].b : Nat), .int .i64 m] [] rfl rfl ?rd ?k ?cells ?na ?bytes ?len ?base ?next)
      case rd => exact by simpa [Stp.cd] using (zH (zaA (by omega))).app ((zH (zaA (by omega))).app (zH (zaA (by omega))))
      case k => simp [Stp.cd]
      case cells => exact zn _ _ _
      case na => simp
      case bytes => omega
      case len => omega
      case base => simp; omega
      case next =>
       intro v' w6 hown6 hg hv' hs6
       have st6 := st4.steps (st' := l ++ [⟨(Tm.pos ps es[m].a : Nat), (Tm.pos ps es[m].b : Nat), m⟩]) (by simpa using hown6) (Moved.after ALB ⟨hg, fun b hb => by simpa using hv' b hb⟩)
       go_wp2_with fail
       refine (zb4 c _ w.heap.size _ _ _ (fun i hi => by
        have hi' : i < ps.length := by rw [← HC.out]; exact hi
        have := (hgd.out.2 i hi').1
        omega) (by rw [HC.out]; omega) hca hcb st6.crow).mono ?_
       rintro e w7 ⟨rfl, hr7, hm7⟩
       have st7 := st6.class hr7 hm7
       go_wp2_with fail
       go_roundw
       case rel => exact ⟨m + 1, _, _, by omega, by go_num, by simp; omega, HG, hgj, st7⟩
       case measure => simp [intOf]; omega
    ·have em : m = es.length := by omega
     subst em
     clear hlt hm
     have HAT : Hid (Clo.At ps (Clo.close ps es) c l) := Lib.hid (by rw [Clo.close_eq, hgv.out.stop (Nat.le_refl _)]; exact Clo.At.start)
     clear hgv
     have HC : Hid (c.length = ps.length) := Lib.hid hgd.out.1
     have hlc : l.length + Clo.roots ps.length c ≤ es.length + ps.length := by have := Clo.roots_le ps.length c; omega
     have hvw := hv.below st.bel
     go_wp2_with fail
     refine (zb6 ps c _ _ w.heap.size _ HO.out HC.out (by rw [HC.out]; omega) hvw st.crow).mono ?_
     rintro e w2 ⟨rfl, hb2⟩
     have st2 := st.below hb2
     clear st hb2 hvw HC
     obtain ⟨na, nb, nm, hnv, hnx⟩ := zb7 (Clo.next ps c)
     have hnxt := Lib.hid hnx
     rw [hnv]
     clear hnv hnx
     have HLC := Lib.hid hlc
     clear hlc
     go_wp2_with fail
     go_loopw [6, 7, 12, 13, 14] (fun cv sv av bv mv wq => ∃ (c : List Nat) (l : List Stp) (na nb : Nat) (nm : Bool), av = .int .i64 na ∧ bv = .int .i64 nb ∧ mv = .bool nm ∧ Hid (NextIs (Clo.next ps c) na nb nm) ∧ Hid (Clo.At ps (Clo.close ps es) c l) ∧ Hid (l.length + Clo.roots ps.length c ≤ es.length + ps.length) ∧ Hid (Clo.Good ps.length c) ∧ RunAt w wq c l cv sv) (fun _ sv _ _ _ _ => es.length + ps.length - slLen sv)
     case atStart => exact ⟨c, l, na, nb, nm, rfl, rfl, rfl, hnxt, HAT, HLC, hgd, st2⟩
     case round =>
      clear st2 hnxt HAT HLC hgd
      obtain ⟨c, l, na, nb, nm, rfl, rfl, rfl, hnx, hat, hlc, hgd, st⟩ := hrel
      cases nm
      ·have HR := Lib.hid (hat.out.stop hnx.out)
       go_wp2_with fail
       go_ret2
       exact ⟨_, _, rfl, by rw [HR.out]; exact st⟩
      ·have hstep := hat.out.step hgd.out hnx.out
       have hab := Clo.next_spec hnx.out
       have HAT := Lib.hid hstep.1
       have HGD := Lib.hid hstep.2.1
       have hrt := hstep.2.2
       have hlo := hlc.out
       have hlb : l.length < es.length + ps.length := by omega
       have HLC : Hid ((l ++ [(⟨na, nb, -1⟩ : Stp)]).length + Clo.roots ps.length (Clo.join c na nb) ≤ es.length + ps.length) := Lib.hid (by simp; omega)
       clear hat hlc hrt hlo hstep hnx
       have HC : Hid (c.length = ps.length) := Lib.hid hgd.out.1
       have hnb := hab.2.1
       have hna : na < ps.length := by omega
       clear hab
       have ALB := zb wr (.cells #[.int .i64 na, .int .i64 nb, .int .i64 (-1)] 113)
       have hown := (st.below ALB).srow
       obtain ⟨sa, sn, sc, rfl⟩ := hown.form'
       have hll : (l.map Stp.cd).length = l.length := by simp
       have hsn : Hid (sn = l.length) := Lib.hid (by rw [hown.len, hll])
       have hz := st.bel.size
       go_wp2_with (at_builtin; refine zp zcO rfl _ _ rfl w.heap.size _ _ _ rfl hown ⟨wr.heap.size, 0, none⟩ 1 1 [Stp.cd ⟨na, nb, -1⟩] [.int .i64 na, .int .i64 nb, .int .i64 (-1)] [] rfl rfl ?rd ?k ?cells ?na ?bytes ?len ?base ?next)
       case rd => exact by simpa [Stp.cd] using (zH (zaA (by omega))).app ((zH (zaA (by omega))).app (zH (by constructor <;> omega)))
       case k => simp [Stp.cd]
       case cells => exact zn _ _ _
       case na => simp
       case bytes => omega
       case len => omega
       case base => simp; omega
       case next =>
        intro v' w6 hown6 hg hv' hs6
        have st6 := st.steps (st' := l ++ [⟨na, nb, -1⟩]) (by simpa using hown6) (Moved.after ALB ⟨hg, fun b hb => by simpa using hv' b hb⟩)
        clear st hown hown6 hv' hs6
        have hcl := HC.out
        go_wp2_with fail
        refine (zb4 c _ w.heap.size _ _ _ (fun i hi => by
         have hi' : i < ps.length := by rw [← HC.out]; exact hi
         have := (hgd.out.2 i hi').1
         omega) (by omega) (by omega) (by omega) st6.crow).mono ?_
        rintro e w7 ⟨rfl, hr7, hm7⟩
        have st7 := st6.class hr7 hm7
        clear st6 hr7 hm7
        obtain ⟨d, hd⟩ : ∃ d, d = Clo.join c na nb := ⟨_, rfl⟩
        have hdl : Hid (d.length = ps.length) := Lib.hid (by rw [hd, Clo.join_len]; exact hcl)
        rw [← hd] at st7 HLC HGD HAT
        go_wp2_with fail
        refine (zb6 ps d _ _ w.heap.size _ HO.out hdl.out (by rw [hdl.out]; omega) (hv.below st7.bel) st7.crow).mono ?_
        rintro e w8 ⟨rfl, hb8⟩
        have st8 := st7.below hb8
        clear st7 hb8
        obtain ⟨ma, mb, mm, hnv, hnx⟩ := zb7 (Clo.next ps d)
        have hnxt := Lib.hid hnx
        rw [hnv]
        clear hnv hnx
        obtain ⟨ta, tn, tc, rfl⟩ := st8.srow.form'
        have htn : Hid (tn = l.length + 1) := Lib.hid (by rw [st8.srow.len]; simp)
        go_wp2_with fail
        go_roundw
        case rel => exact ⟨d, _, ma, mb, mm, rfl, rfl, rfl, hnxt, HAT, HLC, HGD, st8⟩
        case measure => simp only [slLen]; have h1 := hsn.out; have h2 := htn.out; omega
end Go.Proofs.YtlefdhhnlbpbkaaGreat
end
