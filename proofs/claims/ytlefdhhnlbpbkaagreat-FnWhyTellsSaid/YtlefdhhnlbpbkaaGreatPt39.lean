/- Parts of the proof: CloI. -/
import Derived.Lib.Hide
import Derived.OwnWalk
import Derived.Test.YtlefdhhnlbpbkaaGreatPt31
section
namespace Go.Proofs.YtlefdhhnlbpbkaaGreat
open Go Go.RowKit
set_option linter.unusedVariables false
set_option linter.unusedSimpArgs false
set_option maxRecDepth 100000
set_option maxHeartbeats 16000000
/-- The closure's box: parts, classes, steps. -/
structure CloAt (w : World) (cb : Nat) (pv : Value) (c : List Nat) (l : List Stp) (cv sv : Value) : Prop where
 p0 : w.cell? ⟨cb, 0, none⟩ = some pv
 p1 : w.cell? ⟨cb, 1, none⟩ = some cv
 p2 : w.cell? ⟨cb, 2, none⟩ = some sv
 fr : ∀ j, w.frozen? ⟨cb, j, none⟩ = false
 crow : IRow w (cb + 1) cv (nats c)
 srow : Own w (cb + 1) 113 3 sv (l.map Stp.cd) []
 dis : ∀ b, cv.ownBlock = some b → sv.ownBlock ≠ some b
theorem CloAt.lt {w : World} {cb : Nat} {pv cv sv : Value} {c : List Nat} {l : List Stp} (h : CloAt w cb pv c l cv sv) : cb < w.heap.size := World.block_lt_of_cell? w _ h.p0
theorem CloAt.below {w w2 : World} {cb : Nat} {pv cv sv : Value} {c : List Nat} {l : List Stp} (h : CloAt w cb pv c l cv sv) (hb : Below w.heap.size w w2) : CloAt w2 cb pv c l cv sv :=
 ⟨za h.p0 hb, za h.p1 hb, za h.p2 hb, fun j => (zd (hb.block cb h.lt)).trans (h.fr j), h.crow.below hb, h.srow.below hb, h.dis⟩
/-- The steps' row has turned, and lies in the box. -/
theorem CloAt.steps {w w2 : World} {cb : Nat} {pv cv sv sv' : Value} {c : List Nat} {l l' : List Stp} (h : CloAt w cb pv c l cv sv) (hr : Own w2 (cb + 1) 113 3 sv' (l'.map Stp.cd) []) (hm : Moved w sv w2 sv') : CloAt (w2.setCell ⟨cb, 2, none⟩ sv') cb pv c l' cv sv' := by
 have hcb := hm.block h.lt (h.srow.row_ne (by omega))
 have hrow : IRow w2 (cb + 1) cv (nats c) := Own.same h.crow (fun b hb => by simp at hb) (fun b hb => hm.block (Own.block h.crow hb).2 (fun e => h.dis b hb e))
 refine ⟨?_, ?_, ?_, fun j => ?_, Own.set_other hrow (Fresh.nil _ _) (by omega), Own.set_other hr (Fresh.nil _ _) (by omega), fun b hb e => ?_⟩
 ·rw [World.cell?_setCell_other _ _ _ _ (by simp)]; exact zh hcb h.p0
 ·rw [World.cell?_setCell_other _ _ _ _ (by simp)]; exact zh hcb h.p1
 ·exact World.cell?_setCell_same _ _ _ (zh hcb h.p2)
 ·rw [World.frozen?_setCell]; exact zG hcb (h.fr j)
 ·rcases hm.2 b e with h1 | h1
  ·exact h.dis b hb h1
  ·have := (Own.block h.crow hb).2; omega
/-- The classes' row has turned, and lies in the box. -/
theorem CloAt.class {w w2 : World} {cb : Nat} {pv cv sv cv' : Value} {c c' : List Nat} {l : List Stp} (h : CloAt w cb pv c l cv sv) (hr : IRow w2 (cb + 1) cv' (nats c')) (hm : Moved w cv w2 cv') : CloAt (w2.setCell ⟨cb, 1, none⟩ cv') cb pv c' l cv' sv := by
 have hcb := hm.block h.lt (Own.row_ne h.crow (by omega))
 have hrow : Own w2 (cb + 1) 113 3 sv (l.map Stp.cd) [] := h.srow.same (fun b hb => by simp at hb) (fun b hb => hm.block (h.srow.block hb).2 (fun e => h.dis b e hb))
 refine ⟨?_, ?_, ?_, fun j => ?_, Own.set_other hr (Fresh.nil _ _) (by omega), Own.set_other hrow (Fresh.nil _ _) (by omega), fun b hb e => ?_⟩
 ·rw [World.cell?_setCell_other _ _ _ _ (by simp)]; exact zh hcb h.p0
 ·exact World.cell?_setCell_same _ _ _ (zh hcb h.p1)
 ·rw [World.cell?_setCell_other _ _ _ _ (by simp)]; exact zh hcb h.p2
 ·rw [World.frozen?_setCell]; exact zG hcb (h.fr j)
 ·rcases hm.2 b hb with h1 | h1
  ·exact h.dis b h1 e
  ·have := (h.srow.block e).2; omega
/-- A class has turned in its row. -/
theorem CloAt.one {w : World} {cb g n cp : Nat} {pv sv : Value} {c : List Nat} {l : List Stp} (h : CloAt w cb pv c l (.slice (some ⟨g, 0, none⟩) n cp) sv) (k m : Nat) (hm : m ≤ 1000000000) : CloAt (w.setCell ⟨g, k, none⟩ (.int .i64 m)) cb pv (c.set k m) l (.slice (some ⟨g, 0, none⟩) n cp) sv := by
 obtain ⟨h1, h2⟩ := h.crow.set k (zae hm)
 rw [zdH] at h1
 have hcb := h2.block h.lt (Own.row_ne h.crow (by omega))
 refine ⟨zh hcb h.p0, zh hcb h.p1, zh hcb h.p2, fun j => zG hcb (h.fr j), h1, h.srow.same (fun b hb => by simp at hb) (fun b hb => h2.block (h.srow.block hb).2 (fun e => h.dis b e hb)), h.dis⟩
theorem CloAt.row_lt {w : World} {cb g n cp : Nat} {pv sv : Value} {c : List Nat} {l : List Stp} (h : CloAt w cb pv c l (.slice (some ⟨g, 0, none⟩) n cp) sv) : cb < g ∧ g < w.heap.size := by
 have := Own.block h.crow (b := g) rfl
 omega
theorem zdf (l : List Tm) (t : Tm) (v x : Value) (w : World) (ho : Tm.Ord l) (ht : t ∈ l) (hv : TmsR w l v) (hx : TmR w t x) :
  Calls Tryz.prog 96 #[v, x] w fun e w' => e = .returned (.int .i64 (Tm.pos l t : Nat)) ∧ Below w.heap.size w w' := by
 refine (za2 l t v x w hv hx).mono ?_
 rintro e w' ⟨⟨n, rfl, hn⟩, hb⟩
 rw [(hn.pos' ho ht).1]
 exact ⟨rfl, hb⟩
theorem zay (ps : List Tm) (t : Tm) (pv x : Value) (cb : Nat) (w : World) (ho : Tm.Ord ps) (ht : t ∈ ps) (hp : w.cell? ⟨cb, 0, none⟩ = some pv) (hv : TmsR w ps pv) (hx : TmR w t x) :
  Calls Tryz.prog 62 #[.pointer (some ⟨cb, 0, none⟩), x] w fun e w' => e = .returned (.int .i64 (Tm.pos ps t : Nat)) ∧ Below w.heap.size w w' := by
 obtain ⟨ka, kc, rfl, hk⟩ := zdq hx
 have HO := Lib.hid ho
 have HB := zb w (.cells #[.string t.name, .slice ka t.kids.length kc] 29)
 have X0 := zt w #[.string t.name, .slice ka t.kids.length kc] 29 0
 have X1 := zt w #[.string t.name, .slice ka t.kids.length kc] 29 1
 simp only [zeF, zeD, zeE] at X0 X1
 have P0 := za hp HB
 have hvw := hv.below HB
 have hxw := hx.below HB
 clear ho
 go_enter Tryz.func62, Tryz.ntmps62
 go_wp2_with fail
 have q0 := cell_regrown X0
 have q1 := cell_regrown X1
 have q2 := cell_regrown P0
 refine wp_region_quiet_below (by kernel_rfl) (by kernel_rfl) ?_
 repeat (quiet_step (with_reducible refine Calls.regrown_of (zdf ps t _ _ _ HO.out ht (hvw.below (below_regrown _ _ _)) (hxw.below (below_regrown _ _ _)))))
 refine wpQuiet_nil ?_
 intro w2 hw2
 obtain ⟨⟨dq, osq⟩, hw2⟩ := hw2
 have hb2 := hw2 ▸ below_regrown (w.alloc (.cells #[.string t.name, .slice ka t.kids.length kc] 29)) dq osq
 clear hw2 q0 q1 q2
 go_wp2_with fail
 go_ret
 exact ⟨rfl, HB.trans (hb2.mono HB.size)⟩
theorem zew (ps : List Tm) (c : List Nat) (l : List Stp) (x y : Tm) (xv yv pv cv sv : Value) (pb cb : Nat) (r : Bool) (w : World) (ho : Hid (Tm.Ord ps)) (hc : Hid (c.length = ps.length)) (hpos : 0 < ps.length) (hx : x ∈ ps) (hy : y ∈ ps) (hr : (Clo.cl c (Tm.pos ps x) == Clo.cl c (Tm.pos ps y)) = r) (hq : w.cell? ⟨pb, 0, none⟩ = some (.pointer (some ⟨cb, 0, none⟩))) (hst : CloAt w cb pv c l cv sv) (hv : TmsR w ps pv) (hxv : TmR w x xv) (hyv : TmR w y yv) :
  Calls Tryz.prog 119 #[xv, yv, .pointer (some ⟨pb, 0, none⟩)] w fun e w' => e = .returned (.bool r) ∧ Below w.heap.size w w' := by
 obtain ⟨xa, xc, rfl, hxk⟩ := zdq hxv
 obtain ⟨ya, yc, rfl, hyk⟩ := zdq hyv
 obtain ⟨g, cp, rfl, hgB, hgw, hcp⟩ := hst.crow.form (by rw [zm, hc.out]; exact hpos)
 rw [zm] at hst hcp
 have hpx := (Tm.pos_yes hx).1
 have hpy := (Tm.pos_yes hy).1
 obtain ⟨X, Y, hz, HB⟩ := box2 (w := w) (wr := (w.alloc (.cells #[.string x.name, .slice xa x.kids.length xc] 29)).alloc (.cells #[.string y.name, .slice ya y.kids.length yc] 29)) (cs := #[.string x.name, .slice xa x.kids.length xc]) (ds := #[.string y.name, .slice ya y.kids.length yc]) (T := 29) (U := 29) (Below.refl _ _)
 have X0 := X 0
 have X1 := X 1
 have Y0 := Y 0
 have Y1 := Y 1
 simp only [zeF, zeD, zeE] at X0 X1 Y0 Y1
 have HST := hst.below HB
 have ca := (HST.crow.cell (k := Tm.pos ps x) (by rw [zm, hc.out]; exact hpx)).1
 have cb' := (HST.crow.cell (k := Tm.pos ps y) (by rw [zm, hc.out]; exact hpy)).1
 rw [Clo.nats_get (by rw [hc.out]; exact hpx)] at ca
 rw [Clo.nats_get (by rw [hc.out]; exact hpy)] at cb'
 have hcx : Tm.pos ps x < c.length := by rw [hc.out]; exact hpx
 have hcy : Tm.pos ps y < c.length := by rw [hc.out]; exact hpy
 have P0 := HST.p0
 have P1 := HST.p1
 have Q := za hq HB
 have hvw := hv.below HB
 have hxw := hxv.below HB
 have hyw := hyv.below HB
 have heb : (((Clo.cl c (Tm.pos ps x) : Nat) : Int) == ((Clo.cl c (Tm.pos ps y) : Nat) : Int)) = r := by
  rw [← hr]; rw [Bool.eq_iff_iff]; simp only [beq_iff_eq]; omega
 clear hr HST hst hv hxv hyv hq X Y
 go_enter Tryz.func119, Tryz.ntmps119
 go_wp2_with fail
 have q0 := cell_regrown X0
 have q1 := cell_regrown X1
 have q2 := cell_regrown Y0
 have q3 := cell_regrown Y1
 have q4 := cell_regrown P1
 have q5 := cell_regrown Q
 have q6 := cell_regrown ca
 have q7 := cell_regrown cb'
 refine wp_region_quiet_below (by kernel_rfl) (by kernel_rfl) ?_
 repeat (quiet_step (first
  | (with_reducible refine Calls.regrown_of (zay ps x _ _ cb _ ho.out hx ((below_regrown _ _ _).cell (World.block_lt_of_cell? _ _ P0) |>.trans P0) (hvw.below (below_regrown _ _ _)) (hxw.below (below_regrown _ _ _))))
  | (with_reducible refine Calls.regrown_of (zay ps y _ _ cb _ ho.out hy ((below_regrown _ _ _).cell (World.block_lt_of_cell? _ _ P0) |>.trans P0) (hvw.below (below_regrown _ _ _)) (hyw.below (below_regrown _ _ _))))))
 refine wpQuiet_nil ?_
 intro w2 hw2
 obtain ⟨⟨dq, osq⟩, hw2⟩ := hw2
 have hb2 := hw2 ▸ below_regrown ((w.alloc (.cells #[.string x.name, .slice xa x.kids.length xc] 29)).alloc (.cells #[.string y.name, .slice ya y.kids.length yc] 29)) dq osq
 clear hw2 q0 q1 q2 q3 q4 q5 q6 q7
 go_wp2_with fail
 go_ret
 exact ⟨rfl, HB.trans (hb2.mono HB.size)⟩
def Clo.SameTo (ps : List Tm) (c : List Nat) (xs ys : List Tm) (k : Nat) : Prop := ∀ j, j < k → ∀ (h1 : j < xs.length) (h2 : j < ys.length), Clo.cl c (Tm.pos ps xs[j]) = Clo.cl c (Tm.pos ps ys[j])
theorem zdg (ps : List Tm) (c : List Nat) (l : List Stp) (xs ys : List Tm) (v x pv cv sv : Value) (pb cb : Nat) (w : World) (ho : Hid (Tm.Ord ps)) (hc : Hid (c.length = ps.length)) (hpos : 0 < ps.length) (hix : Hid (∀ t ∈ xs, t ∈ ps)) (hiy : Hid (∀ t ∈ ys, t ∈ ps)) (hq : w.cell? ⟨pb, 0, none⟩ = some (.pointer (some ⟨cb, 0, none⟩))) (hst : CloAt w cb pv c l cv sv) (hp : TmsR w ps pv) (hv : TmsR w xs v) (hx : TmsR w ys x) :
  Calls Tryz.prog 29 #[v, x, .func (.func 119) #[] #[.pointer (some ⟨pb, 0, none⟩)]] w fun e w' => e = .returned (.bool (Clo.kidsB ps c xs ys)) ∧ Below w.heap.size w w' := by
 obtain ⟨a, cap, rfl, hc1, hc2⟩ := hv.form
 obtain ⟨a', cap', rfl, hc1', hc2'⟩ := hx.form
 by_cases hl : xs.length = ys.length
 ·have hlb : ((xs.length : Int) != (ys.length : Int)) = false := by rw [hl]; simp
  have hl1 : xs.length ≤ ys.length := by omega
  have hl2 : ys.length ≤ xs.length := by omega
  have HL := Lib.hid hl
  clear hl
  go_enter Tryz.func29, Tryz.ntmps29
  go_wp2_with fail
  go_loopw [17] (fun i wr => ∃ k : Nat, k ≤ xs.length ∧ i = .int .i64 k ∧ Hid (Clo.SameTo ps c xs ys k) ∧ Below w.heap.size w wr) (fun i _ => xs.length - (intOf i).toNat)
  case atStart => exact ⟨0, Nat.zero_le _, rfl, Lib.hid (fun j hj => by omega), Below.refl _ _⟩
  case round =>
   obtain ⟨k, hkl, rfl, hall, hb⟩ := hrel
   have hz := hb.size
   by_cases hlt : k < xs.length
   ·obtain ⟨b, off, rfl, hbs⟩ := hv.addr (by omega)
    obtain ⟨b', off', rfl, hbs'⟩ := hx.addr (by omega)
    have hlt' : k < ys.length := by omega
    obtain ⟨ka, kc, c0, c1, hss, hkk⟩ := (hv.below hb).at hlt
    obtain ⟨ka', kc', c0', c1', hss', hkk'⟩ := (hx.below hb).at hlt'
    have hbz : b' < wr.heap.size := by omega
    have hB2 : Below wr.heap.size wr ((wr.alloc (.cells #[.string xs[k].name, .slice ka xs[k].kids.length kc] 29)).alloc (.cells #[.string ys[k].name, .slice ka' ys[k].kids.length kc'] 29)) := ((Below.refl _ _).alloc (Nat.le_refl _) _).alloc (by simp) _
    have hB3 := hb.trans (hB2.mono hz)
    go_wp2_with fail
    refine (zew ps c l xs[k] ys[k] _ _ _ _ _ pb cb _ _ ho hc hpos (hix.out _ (zeJ hlt)) (hiy.out _ (zeJ hlt')) rfl (za hq hB3) (hst.below hB3) (hp.below hB3) (by exact (TmR.mk hss hkk).below hB2) (by exact (TmR.mk hss' hkk').below hB2)).mono ?_
    rintro e w2 ⟨rfl, hb2⟩
    have hb3 : Below wr.heap.size wr w2 := hB2.trans (hb2.mono (by simp; omega))
    clear hb2
    obtain ⟨r, hr⟩ : ∃ r, r = (Clo.cl c (Tm.pos ps xs[k]) == Clo.cl c (Tm.pos ps ys[k])) := ⟨_, rfl⟩
    rw [← hr]
    have HR := Lib.hid hr
    clear hr
    cases r
    ·have HF := Lib.hid (Clo.kidsB_at (c := c) hlt hlt' (by have := HR.out.symm; simpa using this))
     go_wp2_with fail
     go_ret
     exact ⟨retB HF.out.symm, hb.trans (hb3.mono (by omega))⟩
    ·have HT : Clo.cl c (Tm.pos ps xs[k]) = Clo.cl c (Tm.pos ps ys[k]) := by have := HR.out.symm; simpa using this
     have HS := Lib.hid (show Clo.SameTo ps c xs ys (k + 1) from fun j hj h1 h2 => by
      rcases Nat.lt_or_ge j k with h | h
      ·exact hall.out j h h1 h2
      ·obtain rfl : j = k := by omega
       exact HT)
     clear HT
     go_wp2_with fail
     go_roundw
     case rel => exact ⟨k + 1, by omega, by go_num, HS, hb.trans (hb3.mono (by omega))⟩
     case measure => simp [intOf]; omega
   ·have HF := Lib.hid (Clo.kidsB_all (ps := ps) (c := c) HL.out (fun j h1 h2 => hall.out j (by omega) h1 h2))
    go_wp2_with fail
    go_ret
    exact ⟨retB HF.out.symm, hb⟩
 ·have hlb : ((xs.length : Int) != (ys.length : Int)) = true := by rw [bne_iff_ne]; omega
  have HF := Lib.hid (Clo.kidsB_len (ps := ps) (c := c) hl)
  clear hl
  go_enter Tryz.func29, Tryz.ntmps29
  go_wp2_with fail
  go_ret
  exact ⟨retB HF.out.symm, Below.refl _ _⟩
theorem zdh (c : List Nat) (l : List Stp) (pv cv sv : Value) (cb a b : Nat) (n : Int) (w : World) (hn : I64 n) (hsm : ∀ i, i < c.length → Clo.cl c i ≤ 1000000000) (hl : c.length ≤ 1000000000) (hll : l.length ≤ 1000000000) (ha : a < c.length) (hb : b < c.length) (hst : CloAt w cb pv c l cv sv) :
  Calls Tryz.prog 94 #[.pointer (some ⟨cb, 0, none⟩), .int .i64 a, .int .i64 b, .int .i64 n] w fun e w' => e = .returned (.tuple #[]) ∧ ∃ cv' sv', CloAt w' cb pv (Clo.join c a b) (l ++ [⟨a, b, n⟩]) cv' sv' ∧ Below cb w w' := by
 obtain ⟨g, cp, rfl, hgB, hgw, hcp⟩ := hst.crow.form (by rw [zm]; omega)
 rw [zm] at hst hcp
 have hclt := hst.lt
 have sa := hsm a ha
 have sb := hsm b hb
 have HSM := Lib.hid hsm
 clear hsm
 have hiv : IntKind.i64.wrap n = n := IntWalk.i64_in _ hn
 have ALB := zb w (.cells #[.int .i64 a, .int .i64 b, .int .i64 n] 113)
 have hown := (hst.below ALB).srow
 have P2 := hst.p2
 obtain ⟨sa', sn, sc, rfl⟩ := hown.form'
 have hlm : (l.map Stp.cd).length = l.length := by simp
 obtain ⟨l2, hl2⟩ : ∃ l2, l2 = l ++ [(⟨a, b, n⟩ : Stp)] := ⟨_, rfl⟩
 have HL2 := Lib.hid hl2
 rw [← hl2]
 clear hl2
 go_enter Tryz.func94, Tryz.ntmps94
 go_wp2_with (at_builtin; refine zp zbF rfl _ _ rfl (cb + 1) _ _ _ rfl hown ⟨w.heap.size, 0, none⟩ 1 1 [Stp.cd ⟨a, b, n⟩] [.int .i64 a, .int .i64 b, .int .i64 n] [] rfl rfl ?rd ?k ?cells ?na ?bytes ?len ?base ?next)
 case rd => exact by simpa [Stp.cd] using (zE (zae (by omega))).app ((zE (zae (by omega))).app (zE hn))
 case k => simp [Stp.cd]
 case cells => exact zn _ _ _
 case na => simp
 case bytes => omega
 case len => omega
 case base => simp; omega
 case next =>
  intro v' w6 hown6 hg hv' hs6
  have hm6 : Moved w (.slice sa' sn sc) w6 v' := Moved.after ALB ⟨hg, fun b hb => by simpa using hv' b hb⟩
  have F2 : w6.frozen? ⟨cb, 2, none⟩ = false := zG (hm6.block hst.lt (hst.srow.row_ne (by omega))) (hst.fr 2)
  have D2 : w6.cell? ⟨cb, 2, none⟩ = some (.slice sa' sn sc) := zh (hm6.block hst.lt (hst.srow.row_ne (by omega))) hst.p2
  have st6 := hst.steps (l' := l2) (by rw [HL2.out]; simpa using hown6) hm6
  have hb6 : Below cb w (w6.setCell ⟨cb, 2, none⟩ v') := (hm6.toBelow (B := cb) (by omega) (fun b hb => by have := (hst.srow.block hb).1; omega)).setCell (Nat.le_refl _) _
  obtain ⟨ta, tn, tc, rfl⟩ := hown6.form'
  clear hst hown hown6 hm6 hg hv' hs6 ALB P2
  have P1 := st6.p1
  have ca := (st6.crow.cell (k := a) (by rw [zm]; exact ha)).1
  have cb' := (st6.crow.cell (k := b) (by rw [zm]; exact hb)).1
  rw [Clo.nats_get ha] at ca
  rw [Clo.nats_get hb] at cb'
  go_wp2_with fail
  have q0 := cell_regrown P1
  have q1 := cell_regrown ca
  have q2 := cell_regrown cb'
  refine wp_region_quiet_below (by kernel_rfl) (by kernel_rfl) ?_
  repeat (quiet_step (fail))
  refine wpQuiet_nil ?_
  intro w7 hw7
  obtain ⟨⟨dq, osq⟩, hw7⟩ := hw7
  have hb7 := hw7 ▸ below_regrown (w6.setCell ⟨cb, 2, none⟩ (.slice ta tn tc)) dq osq
  clear hw7 q0 q1 q2 P1 ca cb'
  have st7 := st6.below hb7
  have hB7 := hb6.trans (hb7.mono (Nat.le_trans (Nat.le_of_lt hclt) hb6.size))
  clear st6 hb6 hb7
  have P1 := st7.p1
  by_cases hab : Clo.cl c a < Clo.cl c b
  ·have HF : Hid (Clo.hi c a b = Clo.cl c b) := Lib.hid (by unfold Clo.hi; omega)
   have HT : Hid (Clo.lo c a b = Clo.cl c a) := Lib.hid (by unfold Clo.lo; omega)
   generalize Clo.cl c b = f at hab sb HF ⊢
   generalize Clo.cl c a = t at hab sa HT ⊢
   have stt := sa
   go_wp2_with fail
   go_loopw [10, 11, 49] (fun _ _ i wr => ∃ k : Nat, k ≤ c.length ∧ i = .int .i64 k ∧ CloAt wr cb pv (Clo.mid c f t k) l2 (.slice (some ⟨g, 0, none⟩) c.length cp) (.slice ta tn tc) ∧ Below cb w wr) (fun _ _ i _ => c.length - (intOf i).toNat)
   case atStart => exact ⟨0, Nat.zero_le _, rfl, by rw [Clo.mid_zero]; exact st7, hB7⟩
   case round =>
    clear st7 hB7
    obtain ⟨k, hkl, rfl, st, hB⟩ := hrel
    by_cases hlt : k < c.length
    ·have ck := (st.crow.cell (k := k) (by rw [zm, Clo.mid_len]; exact hlt)).1
     rw [Clo.nats_get (by rw [Clo.mid_len]; exact hlt), Clo.mid_at hlt] at ck
     have fk := IRow.free st.crow k
     have P1 := st.p1
     have hgl := st.row_lt
     by_cases he : Clo.cl c k = f
     ·have heb : (((Clo.cl c k : Nat) : Int) == ((f : Nat) : Int)) = true := by rw [he]; simp
      have st2 := st.one k t stt
      rw [← Clo.mid_yes (t := t) hlt he] at st2
      have hB2 := hB.setCell (p := ⟨g, k, none⟩) (by simp only; omega) (.int .i64 (t : Nat))
      clear he st hB
      go_wp2_with fail
      go_roundw
      case rel => exact ⟨k + 1, by omega, by go_num, st2, hB2⟩
      case measure => simp [intOf]; omega
     ·have heb : (((Clo.cl c k : Nat) : Int) == ((f : Nat) : Int)) = false := by simp; omega
      rw [← Clo.mid_no (t := t) hlt he] at st
      clear he
      go_wp2_with fail
      go_roundw
      case rel => exact ⟨k + 1, by omega, by go_num, st, hB⟩
      case measure => simp [intOf]; omega
    ·have HJ : Hid (Clo.mid c f t k = Clo.join c a b) := Lib.hid (by rw [← HF.out, ← HT.out]; exact Clo.mid_end (by omega))
     rw [HJ.out] at st
     go_wp2_with fail
     go_end0
     exact ⟨rfl, _, _, st, hB⟩
  ·have HF : Hid (Clo.hi c a b = Clo.cl c a) := Lib.hid (by unfold Clo.hi; omega)
   have HT : Hid (Clo.lo c a b = Clo.cl c b) := Lib.hid (by unfold Clo.lo; omega)
   generalize Clo.cl c b = t at hab sb HT ⊢
   generalize Clo.cl c a = f at hab sa HF ⊢
   have stt := sb
   go_wp2_with fail
   go_loopw [10, 11, 49] (fun _ _ i wr => ∃ k : Nat, k ≤ c.length ∧ i = .int .i64 k ∧ CloAt wr cb pv (Clo.mid c f t k) l2 (.slice (some ⟨g, 0, none⟩) c.length cp) (.slice ta tn tc) ∧ Below cb w wr) (fun _ _ i _ => c.length - (intOf i).toNat)
   case atStart => exact ⟨0, Nat.zero_le _, rfl, by rw [Clo.mid_zero]; exact st7, hB7⟩
   case round =>
    clear st7 hB7
    obtain ⟨k, hkl, rfl, st, hB⟩ := hrel
    by_cases hlt : k < c.length
    ·have ck := (st.crow.cell (k := k) (by rw [zm, Clo.mid_len]; exact hlt)).1
     rw [Clo.nats_get (by rw [Clo.mid_len]; exact hlt), Clo.mid_at hlt] at ck
     have fk := IRow.free st.crow k
     have P1 := st.p1
     have hgl := st.row_lt
     by_cases he : Clo.cl c k = f
     ·have heb : (((Clo.cl c k : Nat) : Int) == ((f : Nat) : Int)) = true := by rw [he]; simp
      have st2 := st.one k t stt
      rw [← Clo.mid_yes (t := t) hlt he] at st2
      have hB2 := hB.setCell (p := ⟨g, k, none⟩) (by simp only; omega) (.int .i64 (t : Nat))
      clear he st hB
      go_wp2_with fail
      go_roundw
      case rel => exact ⟨k + 1, by omega, by go_num, st2, hB2⟩
      case measure => simp [intOf]; omega
     ·have heb : (((Clo.cl c k : Nat) : Int) == ((f : Nat) : Int)) = false := by simp; omega
      rw [← Clo.mid_no (t := t) hlt he] at st
      clear he
      go_wp2_with fail
      go_roundw
      case rel => exact ⟨k + 1, by omega, by go_num, st, hB⟩
      case measure => simp [intOf]; omega
    ·have HJ : Hid (Clo.mid c f t k = Clo.join c a b) := Lib.hid (by rw [← HF.out, ← HT.out]; exact Clo.mid_end (by omega))
     rw [HJ.out] at st
     go_wp2_with fail
     go_end0
     exact ⟨rfl, _, _, st, hB⟩
end Go.Proofs.YtlefdhhnlbpbkaaGreat
end
