/- Parts of the proof: CloT RdrN. -/
import Derived.Test.YtlefdhhnlbpbkaaGreatPt15
import Derived.Deep.RegionHeld3
import Derived.Test.YtlefdhhnlbpbkaaGreatPt13
import Derived.Test.YtlefdhhnlbpbkaaGreatPt16
section
namespace Go.Proofs.YtlefdhhnlbpbkaaGreat
open Go Go.RowKit
set_option linter.unusedVariables false
set_option linter.unusedSimpArgs false
set_option maxRecDepth 100000
set_option maxHeartbeats 16000000
/-- Two rows that the call has made: the classes, the steps. -/
structure RunAt (w wr : World) (c : List Nat) (st : List Stp) (cv sv : Value) : Prop where
 crow : IRow wr w.heap.size cv (nats c)
 srow : Own wr w.heap.size 113 3 sv (st.map Stp.cd) []
 dis : ∀ b, cv.ownBlock = some b → sv.ownBlock ≠ some b
 bel : Below w.heap.size w wr
theorem RunAt.below {w wr w2 : World} {c : List Nat} {st : List Stp} {cv sv : Value} (h : RunAt w wr c st cv sv) (hb : Below wr.heap.size wr w2) : RunAt w w2 c st cv sv :=
 ⟨h.crow.below hb, h.srow.below hb, h.dis, h.bel.trans (hb.mono h.bel.size)⟩
theorem RunAt.class {w wr w2 : World} {c c' : List Nat} {st : List Stp} {cv cv' sv : Value} (h : RunAt w wr c st cv sv) (hr : IRow w2 w.heap.size cv' (nats c')) (hm : Moved wr cv w2 cv') : RunAt w w2 c' st cv' sv := by
 refine ⟨hr, h.srow.same (fun b hb => by simp at hb) (fun b hb => hm.block (h.srow.block hb).2 (fun e => h.dis b e hb)), fun b hb e => ?_, h.bel.trans (hm.toBelow h.bel.size (fun b hb => (Own.block h.crow hb).1))⟩
 rcases hm.2 b hb with h1 | h1
 ·exact h.dis b h1 e
 ·have := (h.srow.block e).2; omega
theorem RunAt.steps {w wr w2 : World} {c : List Nat} {st st' : List Stp} {cv sv sv' : Value} (h : RunAt w wr c st cv sv) (hr : Own w2 w.heap.size 113 3 sv' (st'.map Stp.cd) []) (hm : Moved wr sv w2 sv') : RunAt w w2 c st' cv sv' := by
 refine ⟨Own.same h.crow (fun b hb => by simp at hb) (fun b hb => hm.block (Own.block h.crow hb).2 (fun e => h.dis b hb e)), hr, fun b hb e => ?_, h.bel.trans (hm.toBelow h.bel.size (fun b hb => (h.srow.block hb).1))⟩
 rcases hm.2 b e with h1 | h1
 ·exact h.dis b hb h1
 ·have := (Own.block h.crow hb).2; omega
def zd6 : Value → Nat
 | .slice _ n _ => n
 | _ => 0
theorem Own.len {w : World} {base e k n cap : Nat} {a : Option Addr} {es : List (List CD)} {fp : List Nat} (h : Own w base e k (.slice a n cap) es fp) : n = es.length := by
 obtain ⟨a', c', h, _⟩ := h.form
 simp only [Value.slice.injEq] at h
 exact h.2.1
/-- The next pair, as it comes back. -/
def NextIs (o : Option (Nat × Nat)) (a b : Nat) (m : Bool) : Prop := match m with
 | true => o = some (a, b)
 | false => o = none
theorem zbi (o : Option (Nat × Nat)) : ∃ (a b : Nat) (m : Bool), nextV o = .tuple #[.int .i64 a, .int .i64 b, .bool m] ∧ NextIs o a b m := by
 cases o with
 | none => exact ⟨0, 0, false, rfl, rfl⟩
 | some p => exact ⟨p.1, p.2, true, rfl, rfl⟩
theorem zaE (k : Nat) : nats (List.range (k + 1)) = nats (List.range k) ++ [(k : Int)] := by simp [nats, List.range_succ]
theorem zbG (ps : List Tm) (es : List Eqn) (v u : Value) (fu : List Nat) (w : World) (ho : Tm.Ord ps) (hlp : ps.length ≤ 1000000) (hle : es.length ≤ 1000000) (hin : ∀ e ∈ es, e.a ∈ ps ∧ e.b ∈ ps) (hv : TmsR w ps v) (hu : Rd w (.sl (es.map Eqn.cd)) u fu) :
  Calls Tryz.prog 48 #[v, u] w fun e w' => ∃ sv cv, e = .returned (.tuple #[sv, cv]) ∧ RunAt w w' (Clo.close ps es).1 (Clo.close ps es).2 cv sv := by
 obtain ⟨pa, pc, rfl, hpc1, hpc2⟩ := hv.form
 obtain ⟨ea, ec, rfl, hec1, hec2⟩ := zc hu
 have HO := Lib.hid ho
 have HIN := Lib.hid hin
 clear ho hin
 go_enter Tryz.func48, Tryz.ntmps48
 go_wp2_with fail
 go_loopw [6, 8] (fun cv i wr => ∃ k : Nat, k ≤ ps.length ∧ i = .int .i64 k ∧ RunAt w wr (List.range k) [] cv (.slice (some ⟨w.heap.size + 1, 0, none⟩) 0 0)) (fun _ i _ => ps.length - (intOf i).toNat)
 case atStart =>
  have o1 := (Own.empty w w.heap.size 3 1 (Nat.le_refl _)).below (zb (w.alloc (.cells #[] 3)) (.cells #[] 113))
  have o2 := Own.empty (w.alloc (.cells #[] 3)) w.heap.size 113 3 (by simp)
  rw [show (w.alloc (.cells #[] 3)).heap.size = w.heap.size + 1 from by simp] at o2
  exact ⟨0, Nat.zero_le _, rfl, o1, o2, fun b hb e => by simp [Value.ownBlock] at hb e; omega, ((Below.refl _ _).alloc (Nat.le_refl _) _).alloc (by simp) _⟩
 case round =>
  obtain ⟨k, hk, rfl, st⟩ := hrel
  by_cases hlt : k < ps.length
  ·have ALB := zb wr (.cells #[.int .i64 k] 3)
   have hown2 := Own.below st.crow ALB
   obtain ⟨ca, cn, cc, rfl⟩ := hown2.form'
   have hl : ((nats (List.range k)).map zv).length = k := by simp [nats]
   have hz := st.bel.size
   have ST := Lib.hid st
   clear st
   go_wp2_with (at_builtin; refine zp zap rfl _ _ rfl w.heap.size _ _ _ rfl hown2 ⟨wr.heap.size, 0, none⟩ 1 1 [zv k] [.int .i64 k] [] rfl rfl ?rd ?k ?cells ?na ?bytes ?len ?base ?next)
   case rd => exact by simpa using zT [(k : Int)] (by simp; exact zae (by omega))
   case k => simp [zau]
   case cells => exact zn _ _ _
   case na => simp
   case bytes => omega
   case len => omega
   case base => simp; omega
   case next =>
    intro v' w4 hown4 hg hv' hs4
    have st4 := ST.out.class (c' := List.range (k + 1)) (by rw [zaE]; unfold IRow; simpa using hown4) (Moved.after ALB ⟨hg, fun b hb => by simpa using hv' b hb⟩)
    go_wp2_with fail
    go_roundw
    case rel => exact ⟨k + 1, by omega, by go_num, st4⟩
    case measure => simp [intOf]; omega
  ·have ek : k = ps.length := by omega
   subst ek
   clear hlt hk
   have hg0 := Lib.hid (Clo.Good.start ps.length)
   go_wp2_with fail
   go_loopw [6, 7, 9] (fun cv sv i wq => ∃ (m : Nat) (c : List Nat) (l : List Stp), m ≤ es.length ∧ i = .int .i64 m ∧ l.length ≤ m ∧ Hid (Clo.Gv ps es (Clo.given ps es 0 (List.range ps.length) []) m c l) ∧ Hid (Clo.Good ps.length c) ∧ RunAt w wq c l cv sv) (fun _ _ i _ => es.length - (intOf i).toNat)
   case atStart => exact ⟨0, List.range ps.length, [], Nat.zero_le _, rfl, Nat.zero_le _, Lib.hid Clo.Gv.start, hg0, st⟩
   case round =>
    clear st hg0
    obtain ⟨m, c, l, hm, rfl, hlm, hgv, hgd, st⟩ := hrel
    by_cases hlt : m < es.length
    ·obtain ⟨b, off, rfl, hbs, _⟩ := zo hu (by omega)
     obtain ⟨b1, e1, g1, b3, e3, g3, d0', d1', d2', d3', t0, t1, t2, t3, _⟩ := Eqn.at hu hlt
     have d0 := za d0' st.bel
     have d1 := za d1' st.bel
     have hma := HIN.out es[m] (zeJ hlt)
     have hpa := (Tm.pos_yes hma.1).1
     have hpb := (Tm.pos_yes hma.2).1
     have HC : Hid (c.length = ps.length) := Lib.hid hgd.out.1
     have hz := st.bel.size
     have hbz : b < wr.heap.size := by omega
     have hvw := hv.below st.bel
     go_wp2_with fail
     refine (zD ps es[m].a _ _ _ HO.out hma.1 hvw (TmR.mk t0 ⟨g1, t1.below st.bel⟩)).mono ?_
     rintro e w2 ⟨rfl, hb2⟩
     have st2 := st.below hb2
     have d2 := za d2' st2.bel
     have d3 := za d3' st2.bel
     have hz2 := st2.bel.size
     have hbz2 : b < w2.heap.size := by omega
     have hvw2 := hv.below st2.bel
     clear st hvw hb2 d0 d1
     go_wp2_with fail
     refine (zD ps es[m].b _ _ _ HO.out hma.2 hvw2 (TmR.mk t2 ⟨g3, t3.below st2.bel⟩)).mono ?_
     rintro e w3 ⟨rfl, hb3⟩
     have st3 := st2.below hb3
     clear st2 hvw2 hb3 d2 d3
     obtain ⟨g, cp, rfl, hgB, hgw, hcp⟩ := st3.crow.form (by rw [zm, HC.out]; omega)
     rw [zm] at st3 hcp ⊢
     have ca := (st3.crow.cell (k := Tm.pos ps es[m].a) (by rw [zm, HC.out]; exact hpa)).1
     have cb := (st3.crow.cell (k := Tm.pos ps es[m].b) (by rw [zm, HC.out]; exact hpb)).1
     rw [Clo.nats_get (by rw [HC.out]; exact hpa)] at ca
     rw [Clo.nats_get (by rw [HC.out]; exact hpb)] at cb
     have hca : Tm.pos ps es[m].a < c.length := by rw [HC.out]; exact hpa
     have hcb : Tm.pos ps es[m].b < c.length := by rw [HC.out]; exact hpb
     by_cases he : Clo.cl c (Tm.pos ps es[m].a) = Clo.cl c (Tm.pos ps es[m].b)
     ·have heb : (((Clo.cl c (Tm.pos ps es[m].a) : Nat) : Int) != ((Clo.cl c (Tm.pos ps es[m].b) : Nat) : Int)) = false := by rw [he]; simp
      have HG := Lib.hid (hgv.out.same hlt he)
      clear he
      go_wp2_with fail
      have q0 := cell_regrown ca
      have q1 := cell_regrown cb
      refine wp_region_quiet_below (by kernel_rfl) (by kernel_rfl) ?_
      repeat (quiet_step (fail))
      refine wpQuiet_nil ?_
      intro w4 hw4
      obtain ⟨⟨dq, osq⟩, hw4⟩ := hw4
      have hb4 : Below w3.heap.size w3 w4 := hw4 ▸ below_regrown w3 dq osq
      clear hw4 q0 q1
      go_wp2_with fail
      go_roundw
      case rel => exact ⟨m + 1, c, l, by omega, by go_num, by omega, HG, hgd, st3.below hb4⟩
      case measure => simp [intOf]; omega
     ·have heb : (((Clo.cl c (Tm.pos ps es[m].a) : Nat) : Int) != ((Clo.cl c (Tm.pos ps es[m].b) : Nat) : Int)) = true := by simp; omega
      have HG := Lib.hid (hgv.out.new hlt he)
      have hgj := Lib.hid (hgd.out.join hpa hpb)
      clear he
      go_wp2_with fail
      have q0 := cell_regrown ca
      have q1 := cell_regrown cb
      refine wp_region_quiet_below (by kernel_rfl) (by kernel_rfl) ?_
      repeat (quiet_step (fail))
      refine wpQuiet_nil ?_
      intro w4 hw4
      obtain ⟨⟨dq, osq⟩, hw4⟩ := hw4
      have hb4 : Below w3.heap.size w3 w4 := hw4 ▸ below_regrown w3 dq osq
      clear hw4 q0 q1
      have st4 := st3.below hb4
      have hz4 := st4.bel.size
      clear st3 hb4 ca cb
      have ALB := zb w4 (.cells #[.int .i64 (Tm.pos ps es[m].a : Nat), .int .i64 (Tm.pos ps es[m].b : Nat), .int .i64 m] 113)
      have hown := (st4.below ALB).srow
      obtain ⟨sa, sn, sc, rfl⟩ := hown.form'
      have hll : (l.map Stp.cd).length ≤ 1000000 := by simp; omega
      go_wp2_with (at_builtin; refine zp zbF rfl _ _ rfl w.heap.size _ _ _ rfl hown ⟨w4.heap.size, 0, none⟩ 1 1 [Stp.cd ⟨(Tm.pos ps es[m].a : Nat), (Tm.pos ps es[m].b : Nat), m⟩] [.int .i64 (Tm.pos ps es[m].a : Nat), .int .i64 (Tm.pos ps es[m].b : Nat), .int .i64 m] [] rfl rfl ?rd ?k ?cells ?na ?bytes ?len ?base ?next)
      case rd => exact by simpa [Stp.cd] using (zE (zae (by omega))).app ((zE (zae (by omega))).app (zE (zae (by omega))))
      case k => simp [Stp.cd]
      case cells => exact zn _ _ _
      case na => simp
      case bytes => omega
      case len => omega
      case base => simp; omega
      case next =>
       intro v' w6 hown6 hg hv' hs6
       have st6 := st4.steps (st' := l ++ [⟨(Tm.pos ps es[m].a : Nat), (Tm.pos ps es[m].b : Nat), m⟩]) (by simpa using hown6) (Moved.after ALB ⟨hg, fun b hb => by simpa using hv' b hb⟩)
       go_wp2_with fail
       refine (zb9 c _ w.heap.size _ _ _ (fun i hi => by
        have hi' : i < ps.length := by rw [← HC.out]; exact hi
        have := (hgd.out.2 i hi').1
        omega) (by rw [HC.out]; omega) hca hcb st6.crow).mono ?_
       rintro e w7 ⟨rfl, hr7, hm7⟩
       have st7 := st6.class hr7 hm7
       go_wp2_with fail
       go_roundw
       case rel => exact ⟨m + 1, _, _, by omega, by go_num, by simp; omega, HG, hgj, st7⟩
       case measure => simp [intOf]; omega
    ·have em : m = es.length := by omega
     subst em
     clear hlt hm
     have HAT : Hid (Clo.At ps (Clo.close ps es) c l) := Lib.hid (by rw [Clo.close_eq, hgv.out.stop (Nat.le_refl _)]; exact Clo.At.start)
     clear hgv
     have HC : Hid (c.length = ps.length) := Lib.hid hgd.out.1
     have hlc : l.length + Clo.roots ps.length c ≤ es.length + ps.length := by have := Clo.roots_le ps.length c; omega
     have hvw := hv.below st.bel
     go_wp2_with fail
     refine (zcb ps c _ _ w.heap.size _ HO.out HC.out (by rw [HC.out]; omega) hvw st.crow).mono ?_
     rintro e w2 ⟨rfl, hb2⟩
     have st2 := st.below hb2
     clear st hb2 hvw HC
     obtain ⟨na, nb, nm, hnv, hnx⟩ := zbi (Clo.next ps c)
     have hnxt := Lib.hid hnx
     rw [hnv]
     clear hnv hnx
     have HLC := Lib.hid hlc
     clear hlc
     go_wp2_with fail
     go_loopw [6, 7, 12, 13, 14] (fun cv sv av bv mv wq => ∃ (c : List Nat) (l : List Stp) (na nb : Nat) (nm : Bool), av = .int .i64 na ∧ bv = .int .i64 nb ∧ mv = .bool nm ∧ Hid (NextIs (Clo.next ps c) na nb nm) ∧ Hid (Clo.At ps (Clo.close ps es) c l) ∧ Hid (l.length + Clo.roots ps.length c ≤ es.length + ps.length) ∧ Hid (Clo.Good ps.length c) ∧ RunAt w wq c l cv sv) (fun _ sv _ _ _ _ => es.length + ps.length - zd6 sv)
     case atStart => exact ⟨c, l, na, nb, nm, rfl, rfl, rfl, hnxt, HAT, HLC, hgd, st2⟩
     case round =>
      clear st2 hnxt HAT HLC hgd
      obtain ⟨c, l, na, nb, nm, rfl, rfl, rfl, hnx, hat, hlc, hgd, st⟩ := hrel
      cases nm
      ·have HR := Lib.hid (hat.out.stop hnx.out)
       go_wp2_with fail
       go_ret2
       exact ⟨_, _, rfl, by rw [HR.out]; exact st⟩
      ·have hstep := hat.out.step hgd.out hnx.out
       have hab := Clo.next_spec hnx.out
       have HAT := Lib.hid hstep.1
       have HGD := Lib.hid hstep.2.1
       have hrt := hstep.2.2
       have hlo := hlc.out
       have hlb : l.length < es.length + ps.length := by omega
       have HLC : Hid ((l ++ [(⟨na, nb, -1⟩ : Stp)]).length + Clo.roots ps.length (Clo.join c na nb) ≤ es.length + ps.length) := Lib.hid (by simp; omega)
       clear hat hlc hrt hlo hstep hnx
       have HC : Hid (c.length = ps.length) := Lib.hid hgd.out.1
       have hnb := hab.2.1
       have hna : na < ps.length := by omega
       clear hab
       have ALB := zb wr (.cells #[.int .i64 na, .int .i64 nb, .int .i64 (-1)] 113)
       have hown := (st.below ALB).srow
       obtain ⟨sa, sn, sc, rfl⟩ := hown.form'
       have hll : (l.map Stp.cd).length = l.length := by simp
       have hsn : Hid (sn = l.length) := Lib.hid (by rw [hown.len, hll])
       have hz := st.bel.size
       go_wp2_with (at_builtin; refine zp zbF rfl _ _ rfl w.heap.size _ _ _ rfl hown ⟨wr.heap.size, 0, none⟩ 1 1 [Stp.cd ⟨na, nb, -1⟩] [.int .i64 na, .int .i64 nb, .int .i64 (-1)] [] rfl rfl ?rd ?k ?cells ?na ?bytes ?len ?base ?next)
       case rd => exact by simpa [Stp.cd] using (zE (zae (by omega))).app ((zE (zae (by omega))).app (zE (by constructor <;> omega)))
       case k => simp [Stp.cd]
       case cells => exact zn _ _ _
       case na => simp
       case bytes => omega
       case len => omega
       case base => simp; omega
       case next =>
        intro v' w6 hown6 hg hv' hs6
        have st6 := st.steps (st' := l ++ [⟨na, nb, -1⟩]) (by simpa using hown6) (Moved.after ALB ⟨hg, fun b hb => by simpa using hv' b hb⟩)
        clear st hown hown6 hv' hs6
        have hcl := HC.out
        go_wp2_with fail
        refine (zb9 c _ w.heap.size _ _ _ (fun i hi => by
         have hi' : i < ps.length := by rw [← HC.out]; exact hi
         have := (hgd.out.2 i hi').1
         omega) (by omega) (by omega) (by omega) st6.crow).mono ?_
        rintro e w7 ⟨rfl, hr7, hm7⟩
        have st7 := st6.class hr7 hm7
        clear st6 hr7 hm7
        obtain ⟨d, hd⟩ : ∃ d, d = Clo.join c na nb := ⟨_, rfl⟩
        have hdl : Hid (d.length = ps.length) := Lib.hid (by rw [hd, Clo.join_len]; exact hcl)
        rw [← hd] at st7 HLC HGD HAT
        go_wp2_with fail
        refine (zcb ps d _ _ w.heap.size _ HO.out hdl.out (by rw [hdl.out]; omega) (hv.below st7.bel) st7.crow).mono ?_
        rintro e w8 ⟨rfl, hb8⟩
        have st8 := st7.below hb8
        clear st7 hb8
        obtain ⟨ma, mb, mm, hnv, hnx⟩ := zbi (Clo.next ps d)
        have hnxt := Lib.hid hnx
        rw [hnv]
        clear hnv hnx
        obtain ⟨ta, tn, tc, rfl⟩ := st8.srow.form'
        have htn : Hid (tn = l.length + 1) := Lib.hid (by rw [st8.srow.len]; simp)
        go_wp2_with fail
        go_roundw
        case rel => exact ⟨d, _, ma, mb, mm, rfl, rfl, rfl, hnxt, HAT, HLC, HGD, st8⟩
        case measure => simp only [zd6]; have h1 := hsn.out; have h2 := htn.out; omega
mutual
/-- What is so of terms and of their parts is so of all parts. -/
theorem addP_P {P : Tm → Prop} (hk : ∀ n ks, P (.mk n ks) → ∀ k ∈ ks, P k) : ∀ (t : Tm) (l : List Tm), (∀ x ∈ l, P x) → P t → ∀ x ∈ Tm.addP l t, P x
 | .mk n ks, l, h, ha => by
  have h1 := zcE hk ks l h (hk n ks ha)
  simp only [Tm.addP]
  split
  ·exact h1
  ·intro x hx
   rcases zeI.1 hx with hx | hx
   ·exact h1 x hx
   ·rw [List.mem_singleton.1 hx]; exact ha
theorem zcE {P : Tm → Prop} (hk : ∀ n ks, P (.mk n ks) → ∀ k ∈ ks, P k) : ∀ (ts l : List Tm), (∀ x ∈ l, P x) → (∀ t ∈ ts, P t) → ∀ x ∈ Tm.addPs l ts, P x
 | [], l, h, _ => by simpa [Tm.addPs] using h
 | t :: ts, l, h, ha => by
  simp only [Tm.addPs]
  exact zcE hk ts _ (addP_P hk t l h (ha t (by simp))) (fun u hu => ha u (by simp [hu]))
end
theorem zdC {es : List Eqn} {n : Nat} (h : ∀ q ∈ es, q.a.size ≤ n ∧ q.b.size ≤ n) : ∀ t ∈ Tm.addPs [] (zk es ++ []), t.size ≤ n := by
 refine zcE (P := fun t => t.size ≤ n) (fun nm ks hp k hk => ?_) _ _ (by simp) (fun t ht => ?_)
 ·have h1 := Tm.size_mem hk
  simp only [Tm.size] at hp; omega
 ·rw [List.append_nil] at ht
  obtain ⟨q, hq, h2⟩ := List.mem_flatMap.1 ht
  simp at h2
  rcases h2 with rfl | rfl
  ·exact (h q hq).1
  ·exact (h q hq).2
theorem tms1_rd {W : World} {a : Tm} {u0 u1 : Value} {f1 : List Nat} {g : Nat} (h1 : RdVs W a.cd [u0, u1] f1) (hg : g < W.heap.size) (hc : ∀ j u, [u0, u1][j]? = some u → W.cell? ⟨g, j, none⟩ = some u) : ∃ fp, Rd W (.sl ([a].map Tm.cd)) (.slice (some ⟨g, 0, none⟩) 1 1) fp ∧ ∀ b ∈ fp, b = g ∨ b ∈ f1 := by
 refine ⟨g :: f1, ?_, by simp⟩
 simp only [Rd]
 refine ⟨_, 1, rfl, by simp, by simp [maxLen], .inr ⟨by simp, g, 0, f1, rfl, hg, rfl, ?_⟩⟩
 refine RdRows.mk (k := 2) (vs := [u0, u1]) (fun j u hj => by simpa using hc j u hj) ?_
 simpa using h1
theorem tmR_of {w : World} {t : Tm} {a : Option Addr} {c : Nat} {f : List Nat} (h : RdVs w t.cd [.string t.name, .slice a t.kids.length c] f) : TmR w t (.agg #[.string t.name, .slice a t.kids.length c]) := by
 obtain ⟨a', c', f', he, _, h0, h1⟩ := Tm.open h
 simp only [List.cons.injEq, Value.slice.injEq, true_and, and_true] at he
 obtain ⟨rfl, rfl⟩ := he
 exact TmR.mk h0 ⟨f', h1⟩
/-- A term, small, of the call's own. -/
def NearTm (w : World) (e : Ending) (w' : World) : Prop := ∃ (t : Tm) (kv : Value) (fp : List Nat), t.size ≤ 45 ∧ e = .returned (.agg #[.string t.name, kv]) ∧ RdVs w' t.cd [.string t.name, kv] fp ∧ ∀ b ∈ fp, w.heap.size ≤ b
theorem za9 {w w5 : World} {R p q rb : Nat} {t : Tm} {kv u v : Value} {fp : List Nat} (h1 : t.size ≤ 45) (hn : t.name.size ≤ maxLen) (hrd : Rd w5 (.sl (t.kids.map Tm.cd)) kv fp) (hf : ∀ b ∈ fp, R < b) (hR : w.heap.size ≤ R) (hr : Rdr w5 rb q) (hRr : rb < R) (hN : Only [rb] w w5) (hq : q ≤ p) :
  NearTm w (.returned (.agg #[.string t.name, kv])) ((w5.setCell ⟨R, 0, none⟩ u).setCell ⟨R, 1, none⟩ v) ∧ Rdr ((w5.setCell ⟨R, 0, none⟩ u).setCell ⟨R, 1, none⟩ v) rb p ∧ Only [rb] w ((w5.setCell ⟨R, 0, none⟩ u).setCell ⟨R, 1, none⟩ v) := by
 obtain ⟨ka, kc, rfl, _, _⟩ := zc hrd
 refine ⟨⟨t, _, fp, h1, rfl, (Tm.rdv hn hrd).same _ (zad (fun b hb e => by have := hf b hb; omega)), fun b hb => by have := hf b hb; omega⟩, ((hr.set hRr).set hRr).mono hq, (hN.set_new hR).set_new hR⟩
theorem zcn (s : Sg) (es : List Eqn) (vs : List Value) (sf : List Nat) (v : Value) (f : List Nat) (rb p : Nat) (w : World) (hp : p + 100 ≤ 1000000000) (hfew : s.few) (hlen : es.length ≤ 5) (hsz : ∀ q ∈ es, q.a.size ≤ 7 ∧ q.b.size ≤ 7) (hrd : RdVs w s.cd vs sf) (hnr : rb ∉ sf) (hr : Rdr w rb p)
  (hx : Rd w (.sl (es.map Eqn.cd)) v f) :
  Calls Tryz.prog 72 #[.pointer (some ⟨rb, 0, none⟩), .agg vs.toArray, v] w fun e w' => NearTm w e w' ∧ Rdr w' rb (p + 30) ∧ Only [rb] w w' := by
 obtain ⟨a0, c0, f0, rfl, rfl, m0⟩ := Sg.open hrd
 have hlt := hr.lt
 have HPS := Lib.hid (zdC hsz)
 have hsum : Tm.sizes (zk es ++ []) ≤ 1000000000 := by
  have h1 : ∀ (xs : List Eqn), (∀ e ∈ xs, e.a.size + e.b.size ≤ 14) → Tm.sizes (zk xs) ≤ xs.length * 14 := by
   intro xs
   induction xs with
   | nil => intro _; simp [zk, Tm.sizes]
   | cons e xs ih =>
    intro h
    have h1 := h e (by simp)
    have h2 := ih (fun x hx => h x (by simp [hx]))
    have h3 : zk (e :: xs) = [e.a, e.b] ++ zk xs := rfl
    rw [h3, Tm.sizes_append, List.length_cons, Nat.add_mul]
    simp only [Tm.sizes]; omega
  have h2 := h1 es (fun e he => by have := hsz e he; omega)
  rw [Tm.sizes_append]; simp only [Tm.sizes]; omega
 have hpl := Tm.addPs_len (zk es ++ []) []
 simp only [List.length_nil, Nat.zero_add] at hpl
 clear hsz
 have hb2 : Below (w.heap.size + 1 + 1) ((w.alloc (.cells #[.slice a0 s.syms.length c0] 25)).alloc (.cells #[.string ⟨#[]⟩, .slice none 0 0] 29)) ((w.alloc (.cells #[.slice a0 s.syms.length c0] 25)).alloc (.cells #[.string ⟨#[]⟩, .slice none 0 0] 29)) := Below.refl _ _
 obtain ⟨hx0, hy0, hz0, hb0⟩ := box2 hb2
 have x0 := hx0 0
 have r0 := hy0 0
 have r1 := hy0 1
 have rf0 := (zF hb2 0).2
 have rf1 := (zF hb2 1).2
 simp only [zeF, zeD, zeE] at x0 r0 r1
 clear hx0 hy0 hb2
 go_enter Tryz.func72, Tryz.ntmps72
 go_wp2_with fail
 refine (zU es [] _ _ _ [] _ hsum (by exact hx.below hb0) (by exact zaz none)).mono ?_
 rintro e w1 ⟨⟨pv, pf, rfl, hps, hpf⟩, hb1⟩
 have hB1 := hb0.trans (hb1.mono hb0.size)
 have hz1 := hB1.size
 have hzz := hb1.size
 simp only [World.size_alloc] at hzz
 have hN1 : Only [rb] w w1 := Only.below hB1
 replace x0 := za x0 hb1
 replace r0 := za r0 hb1
 replace r1 := za r1 hb1
 replace rf0 := (zd (hb1.block (w.heap.size + 1) (by simp))).trans rf0
 replace rf1 := (zd (hb1.block (w.heap.size + 1) (by simp))).trans rf1
 have hr1 := hr.below hB1
 have hrd1 := hrd.below hB1
 have hpnr : rb ∉ pf := fun h => by have := (hpf.2 _ h).1; rw [World.size_alloc, World.size_alloc] at this; omega
 obtain ⟨pa, pc, rfl, hpc1, hpc2⟩ := zc hps
 clear hb0 hb1 hx hr hrd hB1 hpf
 generalize Tm.addPs [] (zk es ++ []) = ps at *
 have hl1 := hr1.lt
 have hfl : s.syms.length ≤ 5 := hfew.1
 by_cases h0 : ps.length = 0
 ·have hd0 : decide ((0 : Int) < (ps.length : Int)) = false := decide_eq_false (by omega)
  go_wp2_with fail
  have hl7 := hr1.lt
  refine (zaN s _ _ rb (p) _ (by omega) hfew (by exact hrd1) hnr (by exact hr1)).mono ?_
  rintro e w2 ⟨⟨t, kv, fo, hs, rfl, hnm, hown, hfo⟩, hr2, ho2⟩
  obtain ⟨ka, kc, hkv, hk1, hk2⟩ := hown.form
  rw [zeN] at hkv hk1
  subst hkv
  obtain ⟨fa, hra, hfa, _⟩ := hown.fresh hfo
  have hz2 := ho2.size
  have g0 := ho2.cellk r0 (by omega)
  have g1 := ho2.cellk r1 (by omega)
  have gf0 := ho2.free rf0 (by omega) (by omega)
  have gf1 := ho2.free rf1 (by omega) (by omega)
  obtain ⟨z0, z1⟩ := zZ (.string t.name) (.slice ka t.kids.length kc) g0 g1
  go_wp2_with fail
  exact bodyPost_ret (v := .agg #[.string t.name, .slice ka t.kids.length kc]) (by simp [results, Tryz.results72, go_sem, z0, z1]) rfl (za9 hs hnm hra (fun b hb => by have := (hfa.2 b hb).1; omega) (by omega) hr2 (by omega) (hN1.trans ho2) (by omega))
 have hd0 : decide ((0 : Int) < (ps.length : Int)) = true := decide_eq_true (by omega)
 obtain ⟨pb, po, rfl, hpb, _⟩ := zo hps (by omega)
 go_wp2_with fail
 refine (zN rb p 3 _ (by omega) (by omega) (by omega) (by exact hr1)).mono ?_
 rintro e w3 ⟨⟨m, hm, rfl⟩, hr3, ho3⟩
 have hz3 := ho3.size
 replace x0 := ho3.cellk x0 (by omega)
 replace r0 := ho3.cellk r0 (by omega)
 replace r1 := ho3.cellk r1 (by omega)
 replace rf0 := ho3.free rf0 (by omega) (by omega)
 replace rf1 := ho3.free rf1 (by omega) (by omega)
 replace hps := hps.only ho3 hpnr
 have hrd3 := hrd1.only ho3 hnr
 have hN3 := hN1.trans ho3
 clear hr1 ho3 hrd1 hN1 hl1
 by_cases hm0 : 0 < m
 rotate_left
 ·have hd1 : decide ((0 : Int) < (m : Int)) = false := decide_eq_false (by omega)
  go_wp2_with fail
  have hl7 := hr3.lt
  refine (zaN s _ _ rb (p + 1) _ (by omega) hfew (by exact hrd3) hnr (by exact hr3)).mono ?_
  rintro e w2 ⟨⟨t, kv, fo, hs, rfl, hnm, hown, hfo⟩, hr2, ho2⟩
  obtain ⟨ka, kc, hkv, hk1, hk2⟩ := hown.form
  rw [zeN] at hkv hk1
  subst hkv
  obtain ⟨fa, hra, hfa, _⟩ := hown.fresh hfo
  have hz2 := ho2.size
  have g0 := ho2.cellk r0 (by omega)
  have g1 := ho2.cellk r1 (by omega)
  have gf0 := ho2.free rf0 (by omega) (by omega)
  have gf1 := ho2.free rf1 (by omega) (by omega)
  obtain ⟨z0, z1⟩ := zZ (.string t.name) (.slice ka t.kids.length kc) g0 g1
  go_wp2_with fail
  exact bodyPost_ret (v := .agg #[.string t.name, .slice ka t.kids.length kc]) (by simp [results, Tryz.results72, go_sem, z0, z1]) rfl (za9 hs hnm hra (fun b hb => by have := (hfa.2 b hb).1; omega) (by omega) hr2 (by omega) (hN3.trans ho2) (by omega))
 have hd1 : decide ((0 : Int) < (m : Int)) = true := decide_eq_true (by omega)
 go_wp2_with fail
 refine (zN rb (p + 1) ps.length _ (by omega) (by omega) (by omega) (by exact hr3)).mono ?_
 rintro e w4 ⟨⟨n, hn, rfl⟩, hr4, ho4⟩
 have hz4 := ho4.size
 replace x0 := ho4.cellk x0 (by omega)
 replace r0 := ho4.cellk r0 (by omega)
 replace r1 := ho4.cellk r1 (by omega)
 replace rf0 := ho4.free rf0 (by omega) (by omega)
 replace rf1 := ho4.free rf1 (by omega) (by omega)
 replace hps := hps.only ho4 hpnr
 have hrd4 := hrd3.only ho4 hnr
 have hN4 := hN3.trans ho4
 clear hr3 ho4 hrd3 hN3
 have hn' : n < ps.length := by omega
 obtain ⟨ka, kc, fk, d0, d1, t0, t1, hsub⟩ := Tm.at hps hn'
 have hts := HPS.out _ (zeJ hn')
 have hl4 := hr4.lt
 have hlo4 : w.heap.size + 1 < w4.heap.size := World.block_lt_of_cell? _ _ r0
 generalize ps[n] = t at *
 have htd := Tm.rdv t0 t1
 clear HPS
 go_wp2_with fail
 have ba := zb w4 (.cells #[.string t.name, .slice ka t.kids.length kc] 29)
 have y0 : (w4.alloc (.cells #[.string t.name, .slice ka t.kids.length kc] 29)).cell? ⟨w4.heap.size, 0, none⟩ = some (.string t.name) := zi w4 [.string t.name, .slice ka t.kids.length kc] _ 0 _ rfl
 have y1 : (w4.alloc (.cells #[.string t.name, .slice ka t.kids.length kc] 29)).cell? ⟨w4.heap.size, 1, none⟩ = some (.slice ka t.kids.length kc) := zi w4 [.string t.name, .slice ka t.kids.length kc] _ 1 _ rfl
 refine (zN rb (p + 1 + 1) 3 _ (by omega) (by omega) (by omega) (hr4.alloc _)).mono ?_
 rintro e w5 ⟨⟨d, hd, rfl⟩, hr5, ho5⟩
 have hz5 := ho5.size
 rw [World.size_alloc] at hz5
 have hN5 := (Only.below ba).trans ho5
 replace x0 := hN5.cellk x0 (by omega)
 replace r0 := hN5.cellk r0 (by omega)
 replace r1 := hN5.cellk r1 (by omega)
 replace rf0 := hN5.free rf0 (by omega) (by omega)
 replace rf1 := hN5.free rf1 (by omega) (by omega)
 replace y0 := ho5.cellk y0 (by omega)
 replace y1 := ho5.cellk y1 (by omega)
 have hrd5 := hrd4.only hN5 hnr
 have htnr : rb ∉ fk := fun h => hpnr (hsub _ h)
 have ht5 := htd.only hN5 htnr
 have hN := hN4.trans hN5
 clear hr4 ho5 hrd4 hN4 hN5 htd t1 d0 d1 hps ba
 have hl5 := hr5.lt
 have hlo5 : w.heap.size + 1 < w5.heap.size := by omega
 have hly5 : w4.heap.size < w5.heap.size := by omega
 clear hz1 hz3 hzz hz4
 by_cases hdz : d = 0
 rotate_left
 ·have hd2 : ((d : Int) == 0) = false := beq_eq_false_iff_ne.2 (by omega)
  go_wp2_with fail
  refine (zK t.size t _ _ (Nat.le_refl _) (by omega) (tmR_of ht5)).mono ?_
  rintro e w6 ⟨kv6, f6, rfl, hr6, hf6, hb6⟩
  obtain ⟨qa, qc, rfl, hq1, hq2⟩ := zc hr6
  have hz6 := hb6.size
  have g0 := za r0 hb6
  have g1 := za r1 hb6
  have gf0 := (zd (hb6.block (w.heap.size + 1) hlo5)).trans rf0
  have gf1 := (zd (hb6.block (w.heap.size + 1) hlo5)).trans rf1
  obtain ⟨z0, z1⟩ := zZ (.string t.name) (.slice qa t.kids.length qc) g0 g1
  go_wp2_with fail
  exact bodyPost_ret (v := .agg #[.string t.name, .slice qa t.kids.length qc]) (by simp [results, Tryz.results72, go_sem, z0, z1]) rfl (za9 (by omega) t0 hr6 (fun b hb => by have := (hf6.2 b hb).1; omega) (by omega) (hr5.below hb6) (by omega) (hN.trans (Only.below hb6)) (by omega))
 subst hdz
 clear hd
 go_wp2_with fail
 go_loopw [9] (fun i wr => ∃ k : Nat, k ≤ s.syms.length ∧ i = .int .i64 k ∧ Below w5.heap.size w5 wr) (fun i _ => s.syms.length - (intOf i).toNat)
 case atStart => exact ⟨0, Nat.zero_le _, rfl, Below.refl _ _⟩
 case round =>
  obtain ⟨k, hkl, rfl, hb⟩ := hrel
  have hz := hb.size
  replace x0 := za x0 hb
  replace r0 := za r0 hb
  replace r1 := za r1 hb
  replace y0 := za y0 hb
  replace y1 := za y1 hb
  replace rf0 := (zd (hb.block (w.heap.size + 1) hlo5)).trans rf0
  replace rf1 := (zd (hb.block (w.heap.size + 1) hlo5)).trans rf1
  have hrdw := hrd5.below hb
  have htw := ht5.below hb
  have hrw := hr5.below hb
  have hNw := hN.trans (Only.below hb)
  clear hrd5 ht5 hr5 hN
  by_cases hlt : k < s.syms.length
  rotate_left
  ·go_wp2_with fail
   refine (zK t.size t _ _ (Nat.le_refl _) (by omega) (tmR_of htw)).mono ?_
   rintro e w6 ⟨kv6, f6, rfl, hr6, hf6, hb6⟩
   obtain ⟨qa, qc, rfl, hq1, hq2⟩ := zc hr6
   have hz6 := hb6.size
   have g0 := za r0 hb6
   have g1 := za r1 hb6
   have gf0 := (zd (hb6.block (w.heap.size + 1) (by omega))).trans rf0
   have gf1 := (zd (hb6.block (w.heap.size + 1) (by omega))).trans rf1
   obtain ⟨z0, z1⟩ := zZ (.string t.name) (.slice qa t.kids.length qc) g0 g1
   go_wp2_with fail
   exact bodyPost_ret (v := .agg #[.string t.name, .slice qa t.kids.length qc]) (by simp [results, Tryz.results72, go_sem, z0, z1]) rfl (za9 (by omega) t0 hr6 (fun b hb => by have := (hf6.2 b hb).1; omega) (by omega) (hrw.below hb6) (by omega) (hNw.trans (Only.below hb6)) (by omega))
  obtain ⟨a0', c0', f0', he0, hf0', m1⟩ := Sg.open hrdw
  simp only [List.cons.injEq, Value.slice.injEq, true_and, and_true] at he0
  obtain ⟨rfl, rfl⟩ := he0
  obtain ⟨b, off, rfl, hbs, _⟩ := zo m0 (by omega)
  obtain ⟨a1, c1, f1, e0, e1, e2, n0, n1, n2, _⟩ := Sy.at m1 hlt
  have hal := hfew.2 _ (zeJ hlt)
  go_wp2_with fail
  refine (zak s t (by omega) _ _ _ _ _ (by exact hrdw) (by exact htw)).mono ?_
  rintro e w6 ⟨rfl, hb6⟩
  have hz6 := hb6.size
  replace x0 := za x0 hb6
  replace r0 := za r0 hb6
  replace r1 := za r1 hb6
  replace y0 := za y0 hb6
  replace y1 := za y1 hb6
  replace e0 := za e0 hb6
  replace e1 := za e1 hb6
  replace rf0 := (zd (hb6.block (w.heap.size + 1) (by omega))).trans rf0
  replace rf1 := (zd (hb6.block (w.heap.size + 1) (by omega))).trans rf1
  replace n1 := n1.below hb6
  have hB6 := hb.trans (hb6.mono hz)
  have htw6 := htw.below hb6
  have hrw6 := hrw.below hb6
  have hNw6 := hNw.trans (Only.below hb6)
  clear hrdw htw hrw hNw hb hb6 m1 e2
  cases ho : t.tsrt s with
  | none =>
   simp only [Option.getD_none, Option.isSome_none]
   clear ho
   go_wp2_with fail
   go_roundw
   case rel => exact ⟨k + 1, by omega, by go_num, hB6⟩
   case measure => simp [intOf]; omega
  | some sn =>
   simp only [Option.getD_some, Option.isSome_some]
   clear ho
   by_cases hl1' : s.syms[k].args.length = 1
   rotate_left
   ·have hq1 : ((s.syms[k].args.length : Int) == 1) = false := beq_eq_false_iff_ne.2 (by omega)
    go_wp2_with fail
    go_roundw
    case rel => exact ⟨k + 1, by omega, by go_num, hB6⟩
    case measure => simp [intOf]; omega
   have hq1 : ((s.syms[k].args.length : Int) == 1) = true := by rw [hl1']; rfl
   obtain ⟨b7, off7, rfl, hbs7, _⟩ := zo n1 (by omega)
   obtain ⟨h7, _⟩ := zaa n1 (k := 0) (by omega)
   rw [Nat.add_zero] at h7
   have hln : (0 : Int) < (s.syms[k].args.length : Int) := by omega
   cases hq2 : (s.syms[k].args[0] == sn)
   ·go_wp2_with fail
    go_roundw
    case rel => exact ⟨k + 1, by omega, by go_num, hB6⟩
    case measure => simp [intOf]; omega
   ·go_wp2_with fail
    go_region_held3 (fun U => U.cell? ⟨w.heap.size, 0, none⟩ = some (.slice (some ⟨b, off, none⟩) s.syms.length c0) ∧ U.cell? ⟨b, off + k * 3, none⟩ = some (.string s.syms[k].name) ∧ U.cell? ⟨w4.heap.size, 0, none⟩ = some (.string t.name) ∧ U.cell? ⟨w4.heap.size, 1, none⟩ = some (.slice ka t.kids.length kc))
     (first | exact ⟨x0, e0, y0, y1⟩ | exact ⟨za x0 hb7, za e0 hb7, za y0 hb7, za y1 hb7⟩ | exact ⟨zA (za x0 hb7), zA (za e0 hb7), zA (za y0 hb7), zA (za y1 hb7)⟩ | ((refine ⟨?_, ?_, ?_, ?_⟩) <;> ((repeat (first | with_reducible assumption | with_reducible refine zA ?_ | exact za x0 hb7 | exact za e0 hb7 | exact za y0 hb7 | exact za y1 hb7 | ((with_reducible refine (World.cell?_setCell_other _ _ _ _ ?_).trans ?_); (focus (intro e; simp only [Addr.mk.injEq] at e; omega))))); done)))
     (first | (go_at_call 28; (with_reducible refine (zK t.size t _ _ (Nat.le_refl _) (by omega) ?_).mono ?_); exact (tmR_of htw6).below (zj _); rintro e w7 ⟨kv7, f7, rfl, hr7, hf7, hb7'⟩; obtain ⟨qa, qc, rfl, hqc1, hqc2⟩ := zc hr7; have hb7 := (zg hb7'); have hz7 := hb7.size; have g0 := zA (o := .cells #[.string t.name, .slice qa t.kids.length qc] 29) (za r0 hb7); have g1 := zA (o := .cells #[.string t.name, .slice qa t.kids.length qc] 29) (za r1 hb7); have gf0 := (zd ((hb7.alloc hz7 (.cells #[.string t.name, .slice qa t.kids.length qc] 29)).block (w.heap.size + 1) (by omega))).trans rf0; have gf1 := (zd ((hb7.alloc hz7 (.cells #[.string t.name, .slice qa t.kids.length qc] 29)).block (w.heap.size + 1) (by omega))).trans rf1))
    have hbx := hb7.alloc hz7 (.cells #[.string t.name, .slice qa t.kids.length qc] 29)
    obtain ⟨fz, hrz, hfz⟩ := tms1_rd ((Tm.rdv t0 hr7).below (zb w7 (.cells #[.string t.name, .slice qa t.kids.length qc] 29))) (g := w7.heap.size) (by simp) (fun j u hu => zi w7 _ _ j u hu)
    obtain ⟨z0, z1⟩ := zZ (.string s.syms[k].name) (.slice (some ⟨w7.heap.size, 0, none⟩) 1 1) g0 g1
    go_wp2_with fail
    exact bodyPost_ret (v := .agg #[.string s.syms[k].name, .slice (some ⟨w7.heap.size, 0, none⟩) 1 1]) (by simp [results, Tryz.results72, go_sem, z0, z1]) rfl (za9 (t := .mk s.syms[k].name [t]) (by simp only [Tm.size, Tm.sizes]; omega) n0 hrz (fun b hb => by rcases hfz b hb with h | h; omega; have := (hf7.2 b h).1; (try simp at this); omega) (by omega) (hrw6.below hbx) (by omega) (hNw6.trans (Only.below hbx)) (by omega))
end Go.Proofs.YtlefdhhnlbpbkaaGreat
end
