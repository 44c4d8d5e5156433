/- Parts of the proof: StkQ. -/
import Derived.Test.YticlgpkjdmcnaaaPa36
section
namespace Go.Proofs.Yticlgpkjdmcnaaa
open Go Go.RowKit
set_option linter.unusedVariables false
set_option linter.unusedSimpArgs false
set_option maxRecDepth 100000
set_option maxHeartbeats 16000000
def OwnOut (fs : List Fm) (w : World) (e : Ending) (w' : World) : Prop := ∃ (v : Value) (fp : List Nat), e = .returned v ∧ Own w' w.heap.size 52 12 v (fs.map Fm.cd) fp ∧ Fresh w.heap.size w' fp ∧ Below w.heap.size w w'
/-- A stack in block ob: its words, its levels. -/
structure StkW (w : World) (ob lo base : Nat) (s : Sg) (sv lv : Value) (fs : List Nat) (L : List Lv) : Prop where
 c0 : w.cell? ⟨ob, 0, none⟩ = some sv
 c1 : w.cell? ⟨ob, 1, none⟩ = some lv
 fr : ∀ j, w.frozen? ⟨ob, j, none⟩ = false
 sg : RdVs w s.cd [sv] fs
 sl : ∀ b ∈ fs, lo ≤ b
 sb : ∀ b ∈ fs, b < base
 lb : lo ≤ base
 row : Lvs w base lv L
 lg : ∀ t ∈ L, ∀ b ∈ t.g, base ≤ b
 ns : ob ∉ fs
 nf : ∀ t ∈ L, t.v.ownBlock ≠ some ob ∧ ob ∉ t.g
 nr : lv.ownBlock ≠ some ob
theorem StkW.lt {w : World} {ob lo base : Nat} {s : Sg} {sv lv : Value} {fs : List Nat} {L : List Lv} (h : StkW w ob lo base s sv lv fs L) : ob < w.heap.size := World.block_lt_of_cell? w _ h.c0
theorem StkW.below {w w2 : World} {ob lo base : Nat} {s : Sg} {sv lv : Value} {fs : List Nat} {L : List Lv} (h : StkW w ob lo base s sv lv fs L) (hb : Below w.heap.size w w2) : StkW w2 ob lo base s sv lv fs L :=
 ⟨za h.c0 hb, za h.c1 hb, fun j => (zh (hb.block ob h.lt)).trans (h.fr j), h.sg.below hb, h.sl, h.sb, h.lb, h.row.below hb, h.lg, h.ns, h.nf, h.nr⟩
theorem StkW.app {w w4 : World} {ob lo base : Nat} {s : Sg} {sv lv lv' : Value} {fs : List Nat} {L : List Lv} {t : Lv} (h : StkW w ob lo base s sv lv fs L) (hbz : base ≤ w.heap.size) (hrow : Lvs w4 base lv' (L ++ [t])) (hv : ∀ b, t.v.ownBlock = some b → w.heap.size ≤ b) (hg : ∀ b ∈ t.g, w.heap.size ≤ b) (hm : Moved w lv w4 lv') :
  StkW (w4.setCell ⟨ob, 1, none⟩ lv') ob lo base s sv lv' fs (L ++ [t]) := by
 have hlt := h.lt
 have hcb := hm.block h.lt h.nr
 have hsg := hm.same h.sg.lt (fun b hb e => by have := (h.row.lt.1 b e).1; have := h.sb b hb; omega)
 have hs2 := hsg.trans (zv (a := ⟨ob, 1, none⟩) (v := lv') (w := w4) (fun b hb (e : b = ob) => h.ns (e ▸ hb)))
 have hnr : lv'.ownBlock ≠ some ob := fun e => by
  rcases hm.2 ob e with h1 | h1
  ·exact h.nr h1
  ·omega
 have hnf : ∀ u ∈ L ++ [t], u.v.ownBlock ≠ some ob ∧ ob ∉ u.g := fun u hu => by
  rcases zd5.1 hu with hu | hu
  ·exact h.nf u hu
  ·rw [List.mem_singleton.1 hu]
   exact ⟨fun e => by have := hv ob e; omega, fun e => by have := hg ob e; omega⟩
 refine ⟨?_, ?_, fun j => ?_, h.sg.same _ hs2, h.sl, h.sb, h.lb, hrow.set hnr hnf, fun u hu => ?_, h.ns, hnf, hnr⟩
 ·rw [World.cell?_setCell_other _ _ _ _ (by simp)]; exact zg hcb h.c0
 ·exact World.cell?_setCell_same _ _ _ (zg hcb h.c1)
 ·rw [World.frozen?_setCell]; exact zl hcb (h.fr j)
 ·rcases zd5.1 hu with hu | hu
  ·exact h.lg u hu
  ·rw [List.mem_singleton.1 hu]; exact fun b hb => by have := hg b hb; omega
/-- A stack that comes back, its levels' rows the call's own. -/
def StkTwo (k : Stk) (w : World) (e : Ending) (w' : World) : Prop := ∃ (sv lv : Value) (fs : List Nat) (base : Nat) (L : List Lv), e = .returned (.agg #[sv, lv]) ∧ L.map Lv.fs = k.levels ∧ RdVs w' k.sig.cd [sv] fs ∧ (∀ b ∈ fs, w.heap.size ≤ b ∧ b < base) ∧ w.heap.size ≤ base ∧ base ≤ w'.heap.size ∧
 Lvs w' base lv L ∧ (∀ t ∈ L, ∀ b ∈ t.g, base ≤ b) ∧ Below w.heap.size w w'
theorem StkW.box {w' : World} {k : Stk} {sv lv : Value} {fs : List Nat} {L : List Lv} {base lo : Nat} (hsg : RdVs w' k.sig.cd [sv] fs) (hsf : ∀ b ∈ fs, lo ≤ b ∧ b < base) (hlb : lo ≤ base) (hrow : Lvs w' base lv L) (hlg : ∀ t ∈ L, ∀ b ∈ t.g, base ≤ b) :
  StkW (w'.alloc (.cells #[sv, lv] 28)) w'.heap.size lo base k.sig sv lv fs L := by
 have hc := zy w' #[sv, lv] 28
 have hb := zb w' (.cells #[sv, lv] 28)
 have hl := hrow.lt
 exact ⟨hc 0, hc 1, fun j => zW _ _ _ _, hsg.below hb, fun b hb => (hsf b hb).1, fun b hb => (hsf b hb).2, hlb, hrow.below hb, hlg, fun h => by have := hsg.lt _ _ h; omega, fun t ht => ⟨fun e => by have := ((hl.2 t ht).1 _ e).2; omega, fun e => by have := (hl.2 t ht).2 _ e; omega⟩, fun h => by have := (hl.1 _ h).2; omega⟩
theorem StkW.out {w : World} {ob lo base : Nat} {s : Sg} {sv lv : Value} {fs : List Nat} {L : List Lv} (h : StkW w ob lo base s sv lv fs L) : ∃ fq, RdVs w (Stk.mk s (L.map Lv.fs)).cd [sv, lv] (fs ++ fq) ∧ ∀ b ∈ fs ++ fq, lo ≤ b := by
 obtain ⟨fq, h1, h2⟩ := h.row.rd
 refine ⟨fq, ?_, fun b hb => ?_⟩
 ·unfold Stk.cd
  exact h.sg.app (RdVs.single h1)
 ·have hl := h.row.lt
  have := h.lb
  rcases zd5.1 hb with hb | hb
  ·exact h.sl b hb
  ·rcases h2 b hb with h3 | ⟨t, ht, h3 | h3⟩
   ·have := (hl.1 b h3).1; omega
   ·have := ((hl.2 t ht).1 b h3).1; omega
   ·have := h.lg t ht b h3; omega
theorem flat_take {L : List Lv} {ls : List (List Fm)} {n : Nat} (h : L.map Lv.fs = ls.take n) (hn : n < ls.length) {t : Lv} (ht : t.fs = ls[n]) : (L ++ [t]).map Lv.fs = ls.take (n + 1) := by
 rw [zd8, h, zd4 hn]; simp [ht]
theorem lvs_len {L : List Lv} {ls : List (List Fm)} {n : Nat} (h : L.map Lv.fs = ls.take n) : L.length ≤ ls.length := by
 have := congrArg List.length h
 rw [zea, List.length_take] at this; omega
theorem zdo (w : World) (v : Value) (T : Nat) : (w.alloc (.cells #[v] T)).cell? ((⟨w.heap.size, 0, none⟩ : Addr).add 0) = some v := zr w [v] T 0 v rfl
theorem zdP (xs : List Fm) (v : Value) (fp0 : List Nat) (w : World) (hbig : xs.length + wtR (xs.map Fm.cd) ≤ 1048576) (hv : Rd w (.sl (xs.map Fm.cd)) v fp0) :
  Calls Try.prog 45 #[v] w (OwnOut xs w) := by
 obtain ⟨a, cap, rfl, hc1, hc2⟩ := zi hv
 go_enter Try.func45, Try.ntmps45
 go_wp2_with fail
 go_loopw [3, 4] (fun ov i wr => ∃ (k : Nat) (fp : List Nat), k ≤ xs.length ∧ i = .int .i64 k ∧ Own wr w.heap.size 52 12 ov ((xs.take k).map Fm.cd) fp ∧ Fresh w.heap.size wr fp ∧ Below w.heap.size w wr) (fun _ i _ => xs.length - (intOf i).toNat)
 case atStart => first | exact ⟨0, [], Nat.zero_le _, rfl, Own.nil _ _ _ _, Fresh.nil _ _, Below.refl _ _⟩ | exact ⟨0, [], Nat.zero_le _, rfl, by exact Own.empty _ _ _ _ (Nat.le_refl _), Fresh.nil _ _, (Below.refl _ _).alloc (Nat.le_refl _) _⟩
 case round =>
  obtain ⟨k, fp, hkl, rfl, hown, hfr, hb⟩ := hrel
  have hz := hb.size
  by_cases hlt : k < xs.length
  ·obtain ⟨b, off, rfl, hbs, _⟩ := zp hv (by omega)
   obtain ⟨a3, c3, f3, a5, c5, f5, a6, c6, f6, a7, c7, f7, a11, c11, f11, d0, d1, d2, d3, d4, d5, d6, d7, d8, d9, d10, d11, m0, m1, m2, m3, m4, m5, m6, m7, m8, m9, _⟩ := Fm.at (hv.below hb) hlt
   have hbz : b < wr.heap.size := by omega
   have hle := zJ Fm.cd xs (k + 1)
   rw [zP Fm.cd xs k hlt] at hle
   go_wp2_with fail
   refine (zbq xs[k] _ _ _ (by omega) (by exact Fm.close m0 m1 m2 m3 m4 m5 m6 m7 m8 m9)).mono ?_
   rintro e w2 ⟨kv, fk, rfl, hrk, hfk, hb2⟩
   obtain ⟨b3, e3, g3, b5, e5, g5, b6, e6, g6, b7, e7, g7, b11, e11, g11, rfl, -, n0, n1, n2, n3, n4, n5, n6, n7, n8, n9⟩ := Fm.open hrk
   have hbw : Below wr.heap.size wr w2 := hb2
   have hz2 := hbw.size
   have hown2 := (hown.below (hbw.alloc hz2 (.cells #[.int .i64 xs[k].kind, .int .i64 xs[k].lit.atom.kind, .string xs[k].lit.atom.a.name, .slice b3 xs[k].lit.atom.a.kids.length e3, .string xs[k].lit.atom.b.name, .slice b5 xs[k].lit.atom.b.kids.length e5, .slice b6 xs[k].lit.atom.nums.length e6, .slice b7 xs[k].lit.atom.times.length e7, .int .i64 xs[k].lit.atom.bound, .bool xs[k].lit.atom.strict, .bool xs[k].lit.no, .slice b11 xs[k].kids.length e11] 52)))
   have hrk2 := hrk.below (zb w2 (.cells #[.int .i64 xs[k].kind, .int .i64 xs[k].lit.atom.kind, .string xs[k].lit.atom.a.name, .slice b3 xs[k].lit.atom.a.kids.length e3, .string xs[k].lit.atom.b.name, .slice b5 xs[k].lit.atom.b.kids.length e5, .slice b6 xs[k].lit.atom.nums.length e6, .slice b7 xs[k].lit.atom.times.length e7, .int .i64 xs[k].lit.atom.bound, .bool xs[k].lit.atom.strict, .bool xs[k].lit.no, .slice b11 xs[k].kids.length e11] 52))
   have hl : ((xs.take k).map Fm.cd).length ≤ xs.length := by simp; omega
   go_wp2_with (at_builtin; refine zH zai rfl _ _ rfl w.heap.size _ _ _ rfl hown2 ⟨w2.heap.size, 0, none⟩ 1 1 [xs[k].cd] [.int .i64 xs[k].kind, .int .i64 xs[k].lit.atom.kind, .string xs[k].lit.atom.a.name, .slice b3 xs[k].lit.atom.a.kids.length e3, .string xs[k].lit.atom.b.name, .slice b5 xs[k].lit.atom.b.kids.length e5, .slice b6 xs[k].lit.atom.nums.length e6, .slice b7 xs[k].lit.atom.times.length e7, .int .i64 xs[k].lit.atom.bound, .bool xs[k].lit.atom.strict, .bool xs[k].lit.no, .slice b11 xs[k].kids.length e11] fk rfl rfl ?rd ?k ?cells ?na ?bytes ?len ?base ?next)
   case rd => simpa using hrk2
   case k => simp [Fm.cd_len]
   case cells => exact zr _ _ _
   case na => exact hown.away (Nat.le_refl _) hfk
   case bytes => omega
   case len => omega
   case base => simp; omega
   case next =>
    intro v' w4 hown4 hg hv' hs4
    go_wp2_with fail
    go_roundw
    case rel =>
     refine ⟨k + 1, fp ++ fk, by omega, by go_num, ?_, ?_, ?_⟩
     ·rw [zd4 hlt, zd8]; simpa using hown4
     ·exact ((Fresh.app (hfr.below hbw) hfr.lt hz hfk).below (zb _ _)).same hs4
     ·exact zk ((hb.trans (hbw.mono hz)).alloc (by omega) _) hg (by simp; omega) (fun k hk => (hown.block hk).1)
    case measure => simp [intOf]; omega
  ·have he : xs.take k = xs := List.take_of_length_le (by omega)
   rw [he] at hown
   go_wp2_with fail
   go_ret
   exact ⟨_, fp, rfl, hown, hfr, hb⟩
theorem zbe (k : Stk) (vs : List Value) (f : List Nat) (w : World) (hbig : wtV k.cd ≤ 1048576) (hv : RdVs w k.cd vs f) :
  Calls Try.prog 27 #[.agg vs.toArray] w (StkTwo k w) := by
 obtain ⟨a0, c0, f0, a1, c1, f1, rfl, _, m0, m1⟩ := Stk.open hv
 have hw : wtV k.cd = wtV k.sig.cd + (k.levels.length + wtR (k.levels.map zx)) := by unfold Stk.cd; simp only [zF, zaO, zav, zce, zao]; try omega
 rw [hw] at hbig
 clear hw
 go_enter Try.func27, Try.ntmps27
 go_wp2_with fail
 refine (zby k.sig _ _ _ (by omega) (by exact (Sg.close m0).below (((Below.refl _ _).alloc (Nat.le_refl _) _).alloc (by simp) _))).mono ?_
 rintro e w1 ⟨us, fs, rfl, hr, hfr, hb1⟩
 obtain ⟨sa, sc, sf, rfl, _, n0⟩ := Sg.open hr
 have hbb := zt (n := w.heap.size + 1 + 1) hb1 (by simp)
 obtain ⟨hx, hy, hz, hB⟩ := box2 (w := w) (wr := w1) (cs := #[.slice a0 k.sig.syms.length c0, .slice a1 k.levels.length c1]) (ds := #[.slice none 0 0, .slice none 0 0]) (T := 28) (U := 28) hbb
 have hf2 := fun j => (zaa hbb j).2
 have hfr := hfr.mono (lo' := w.heap.size + 1 + 1) (by simp)
 clear hb1 hbb
 have X1 := hx 1
 simp only [zd2, zd0, zd1] at X1
 have hlk := hfr.lt
 have hwz : w.heap.size < w1.heap.size := by omega
 go_wp2_with fail
 have hU : Below w1.heap.size w1 ((w1.alloc (.cells #[] 32)).alloc (.cells #[.slice sa k.sig.syms.length sc, .slice (some ⟨w1.heap.size, 0, none⟩) 0 0] 28)) := (zb _ _).alloc (by simp) _
 have hc := zy (w1.alloc (.cells #[] 32)) #[.slice sa k.sig.syms.length sc, .slice (some ⟨w1.heap.size, 0, none⟩) 0 0] 28
 have hf := zW (w1.alloc (.cells #[] 32)) #[.slice sa k.sig.syms.length sc, .slice (some ⟨w1.heap.size, 0, none⟩) 0 0] 28
 simp only [World.size_alloc] at hc hf
 have st0 : StkW ((w1.alloc (.cells #[] 32)).alloc (.cells #[.slice sa k.sig.syms.length sc, .slice (some ⟨w1.heap.size, 0, none⟩) 0 0] 28)) (w1.heap.size + 1) (w.heap.size + 1 + 1) w1.heap.size k.sig (.slice sa k.sig.syms.length sc) (.slice (some ⟨w1.heap.size, 0, none⟩) 0 0) fs [] :=
  ⟨hc 0, hc 1, hf, hr.below hU, fun b hb => (hfr.2 b hb).1, hlk, hz, (Lvs.empty w1 w1.heap.size (Nat.le_refl _)).below (zb _ _), by simp, fun h => by have := hlk _ h; omega, by simp, by simp [Value.ownBlock]⟩
 clear hc hf
 go_loopw [4] (fun i wr => ∃ (n : Nat) (lv : Value) (L : List Lv), n ≤ k.levels.length ∧ i = .int .i64 n ∧ L.map Lv.fs = k.levels.take n ∧ StkW wr (w1.heap.size + 1) (w.heap.size + 1 + 1) w1.heap.size k.sig (.slice sa k.sig.syms.length sc) lv fs L ∧ Below w1.heap.size w1 wr) (fun i _ => k.levels.length - (intOf i).toNat)
 case atStart => exact ⟨0, _, [], Nat.zero_le _, rfl, rfl, st0, hU⟩
 case round =>
  clear st0 hU
  obtain ⟨n, lv, L, hnl, rfl, hL0, st, hbw⟩ := hrel
  have HL := Lib.hid hL0
  clear hL0
  have x1 := za X1 hbw
  have y1 := st.c1
  have g1 := st.fr 1
  have hob := st.lt
  have hz1 := hbw.size
  by_cases hlt : n < k.levels.length
  ·have m1w := m1.below (hB.trans (hbw.mono (by omega)))
   obtain ⟨bk, off, rfl, hbs, _⟩ := zp m1w (by omega)
   obtain ⟨la, lc, lf, d0, hkd, _⟩ := zaN m1w hlt
   have hle := zJ zx k.levels (n + 1)
   rw [zP zx k.levels n hlt, zx, zao] at hle
   have hown := st.row
   have hll := lvs_len HL.out
   have hlk5 : k.levels.length ≤ 1048576 := by omega
   clear m1w
   go_wp2_with fail
   have tok1 : True := trivial
   go_region_law (first
    | (have _t := @hkv2; go_loud (refine step_lvs zaA rfl _ _ rfl rfl (by exact hown) (by exact hbx) ⟨w2.heap.size, 0, none⟩ 1 rfl (by exact zdo _ _ _) (by exact hkv2) (by exact hg3) (by omega) (by omega) (by omega) ?_); intro lv4 w4 hrow4 hm9; obtain ⟨a4', n4', c4', rfl⟩ := hrow4.form'; have hm4 := Moved.after hbx hm9; have hcb4 := hm4.block st.lt st.nr; have y1' := zg hcb4 y1; have g1' := zl hcb4 g1)
    | (have _t := tok1; clear _t tok1; go_simp; go_at_call 45; refine (zdP k.levels[n] _ _ _ (by omega) (by exact hkd.below (zm _))).mono ?_; rintro e w2 ⟨kv3, fp3, rfl, hr3, hf3, hb3⟩; obtain ⟨p3, n3, q3, rfl⟩ := hr3.form'; have hb3 := zc hb3; have hz2 := hb3.size; have hlz : w1.heap.size + 1 < w2.heap.size := (by omega); have hbk := hb3.block (w1.heap.size + 1) (by omega); have y1w := zg hbk y1; have g1w := zl hbk g1; clear hbk; have hbx := hb3.alloc hb3.size (.cells #[.slice p3 n3 q3] 32); have hkv2 := hr3.below (zb w2 (.cells #[.slice p3 n3 q3] 32)); have hg3 : ∀ b ∈ fp3, wr.heap.size ≤ b := fun b hb => (hf3.2 b hb).1))
   all_goals
    have st4 := st.app hz1 hrow4 (fun b hb => (hkv2.block hb).1) hg3 hm4
    have hbw4 : Below w1.heap.size w1 (w4.setCell ⟨w1.heap.size + 1, 1, none⟩ (.slice a4' n4' c4')) := (hbw.trans (hm4.toBelow hz1 (fun q hq => (hown.lt.1 q hq).1))).setCell (by simp) _
    go_wp2_with fail
    go_roundw
    case rel => exact ⟨n + 1, _, _, by omega, by go_num, flat_take HL.out hlt rfl, st4, hbw4⟩
    case measure => simp [intOf]; omega
  ·have he : k.levels.take n = k.levels := List.take_of_length_le (by omega)
   have hLL := HL.out
   rw [he] at hLL
   replace HL := Lib.hid hLL
   clear he hLL
   obtain ⟨ln, hln⟩ : ∃ q, q = L.length := ⟨_, rfl⟩
   obtain ⟨la, lc, hlv⟩ := st.row.form
   rw [← hln] at hlv
   clear hln
   subst hlv
   have hyw : ∀ j, wr.cell? ⟨w.heap.size + 1, j, none⟩ = (#[.slice none 0 0, .slice none 0 0] : Array Value)[j]? := zd hy (by omega) hbw
   have hfw : ∀ j, wr.frozen? ⟨w.heap.size + 1, j, none⟩ = false := zj hf2 (by omega) hbw
   have y0' := hyw 0
   have y1' := hyw 1
   have g0' := hfw 0
   have g1' := hfw 1
   simp only [zd2, zd0, zd1] at y0' y1'
   have s0 := st.c0
   have hres := zC (b := w.heap.size + 1) [(0, .slice sa k.sig.syms.length sc), (1, .slice la ln lc)] hyw (by simp)
   have r0 := hres 0
   have r1 := hres 1
   simp only [zo, zaq, zdY, zdZ, zd2, zd0, zd1] at r0 r1
   have hl := st.row.lt
   have hn1 : w.heap.size + 1 ∉ fs := fun h => by have := st.sl _ h; omega
   have hn2 : ∀ t ∈ L, t.v.ownBlock ≠ some (w.heap.size + 1) ∧ w.heap.size + 1 ∉ t.g := fun t ht => ⟨fun e => by have := ((hl.2 t ht).1 _ e).1; omega, fun e => by have := st.lg t ht _ e; omega⟩
   have hn3 : (Value.slice la ln lc).ownBlock ≠ some (w.heap.size + 1) := fun h => by have := (hl.1 _ h).1; omega
   have hs1 := zY (w := wr) (i := 0) (j := 1) (u := .slice sa k.sig.syms.length sc) (v := .slice la ln lc) (fun b hb (e : b = w.heap.size + 1) => hn1 (e ▸ hb))
   have hBe := hB.trans (hbw.mono (by omega))
   clear hres hyw hfw
   go_wp2_with fail
   refine bodyPost_ret (v := .agg #[.slice sa k.sig.syms.length sc, .slice la ln lc]) (by simp [results, Try.results27, go_sem, r0, r1]) rfl ?_
   exact ⟨_, _, fs, w1.heap.size, L, rfl, HL.out, st.sg.same _ hs1, fun b hb => ⟨by have := st.sl b hb; omega, st.sb b hb⟩, hB.size, by rw [World.size_setCell, World.size_setCell]; exact hbw.size, (st.row.set hn3 hn2).set hn3 hn2, st.lg, (hBe.setCell (by simp) _).setCell (by simp) _⟩
end Go.Proofs.Yticlgpkjdmcnaaa
end
