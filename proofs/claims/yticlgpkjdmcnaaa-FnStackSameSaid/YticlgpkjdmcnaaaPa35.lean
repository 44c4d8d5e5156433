/- Parts of the proof: StkP. -/
import Derived.OwnWalk
import Derived.Deep.CutRange
import Derived.Test.YticlgpkjdmcnaaaPa34
import Derived.Test.YticlgpkjdmcnaaaPa15
section
namespace Go.Proofs.Yticlgpkjdmcnaaa
open Go Go.RowKit
set_option linter.unusedVariables false
set_option linter.unusedSimpArgs false
set_option maxRecDepth 100000
set_option maxHeartbeats 16000000
theorem Own.set_apart {w : World} {base e k : Nat} {v : Value} {es : List (List CD)} {fp : List Nat} (h : Own w base e k v es fp) {b j : Nat} {u : Value} (hn : b ∉ fp) (ho : v.ownBlock ≠ some b) : Own (w.setCell ⟨b, j, none⟩ u) base e k v es fp :=
 h.same (zv (fun x hx (e : x = b) => hn (e ▸ hx))) fun x hx => Below.heap_setCell _ _ _ _ (fun e : x = b => ho (e ▸ hx))
/-- A stack in block ob: its words, its levels. -/
structure StkVar (w : World) (ob lo base : Nat) (s : Sg) (ls : List (List Fm)) (sv lv : Value) (fs fp : List Nat) : Prop where
 c0 : w.cell? ⟨ob, 0, none⟩ = some sv
 c1 : w.cell? ⟨ob, 1, none⟩ = some lv
 fr : ∀ j, w.frozen? ⟨ob, j, none⟩ = false
 sg : RdVs w s.cd [sv] fs
 sf : Fresh lo w fs
 sb : ∀ b ∈ fs, b < base
 lb : lo ≤ base
 row : Own w base 32 1 lv (ls.map zx) fp
 lf : Fresh base w fp
 ns : ob ∉ fs
 nf : ob ∉ fp
 nr : lv.ownBlock ≠ some ob
theorem StkVar.lt {w : World} {ob lo base : Nat} {s : Sg} {ls : List (List Fm)} {sv lv : Value} {fs fp : List Nat} (h : StkVar w ob lo base s ls sv lv fs fp) : ob < w.heap.size := World.block_lt_of_cell? w _ h.c0
theorem StkVar.below {w w2 : World} {ob lo base : Nat} {s : Sg} {ls : List (List Fm)} {sv lv : Value} {fs fp : List Nat} (h : StkVar w ob lo base s ls sv lv fs fp) (hb : Below w.heap.size w w2) : StkVar w2 ob lo base s ls sv lv fs fp :=
 ⟨za h.c0 hb, za h.c1 hb, fun j => (zh (hb.block ob h.lt)).trans (h.fr j), h.sg.below hb, h.sf.below hb, h.sb, h.lb, h.row.below hb, h.lf.below hb, h.ns, h.nf, h.nr⟩
theorem StkVar.app {w w4 : World} {ob lo base : Nat} {s : Sg} {ls ls' : List (List Fm)} {sv lv lv' : Value} {fs fp fp' : List Nat} (h : StkVar w ob lo base s ls sv lv fs fp) (hown : Own w4 base 32 1 lv' (ls'.map zx) fp') (hf : Fresh base w4 fp') (hnf : ob ∉ fp') (hm : Moved w lv w4 lv') :
  StkVar (w4.setCell ⟨ob, 1, none⟩ lv') ob lo base s ls' sv lv' fs fp' := by
 have hcb := hm.block h.lt h.nr
 have hsg := hm.same h.sf.lt (fun b hb => h.row.row_ne (h.sb b hb))
 have hs2 := hsg.trans (zv (a := ⟨ob, 1, none⟩) (v := lv') (w := w4) (fun b hb (e : b = ob) => h.ns (e ▸ hb)))
 have hnr : lv'.ownBlock ≠ some ob := fun e => by
  rcases hm.2 ob e with h1 | h1
  ·exact h.nr h1
  ·have := h.lt; omega
 refine ⟨?_, ?_, fun j => ?_, h.sg.same _ hs2, h.sf.same hs2, h.sb, h.lb, hown.set_apart hnf hnr, hf.same (zv (fun b hb (e : b = ob) => hnf (e ▸ hb))), h.ns, hnf, hnr⟩
 ·rw [World.cell?_setCell_other _ _ _ _ (by simp)]; exact zg hcb h.c0
 ·exact World.cell?_setCell_same _ _ _ (zg hcb h.c1)
 ·rw [World.frozen?_setCell]; exact zl hcb (h.fr j)
theorem zc6 {w : World} {es : List (List CD)} (he : es = []) (a : Option Addr) : Rd w (.sl es) (.slice a 0 0) [] := by
 subst he; simp only [Rd]; exact ⟨a, 0, rfl, by simp, by simp [maxLen], by simp⟩
theorem StkVar.out {w : World} {ob lo base : Nat} {s : Sg} {ls : List (List Fm)} {sv lv : Value} {fs fp : List Nat} (h : StkVar w ob lo base s ls sv lv fs fp) : ∃ fq, RdVs w (Stk.mk s ls).cd [sv, lv] (fs ++ fq) ∧ Fresh lo w (fs ++ fq) := by
 obtain ⟨fq, h1, h2, _⟩ := h.row.fresh h.lf
 refine ⟨fq, ?_, h.sf.app h.sb h.lb h2⟩
 unfold Stk.cd
 exact h.sg.app (RdVs.single h1)
theorem zck (w : World) : RdVs w (Stk.mk ⟨[]⟩ []).cd [.slice none 0 0, .slice none 0 0] [] := by
 have h1 := RdVs.single (zbD w Sy.cd)
 have h2 := RdVs.single (zbD w zx)
 exact h1.app h2
/-- StackPush. -/
def Stk.push (k : Stk) : Stk × Bool := if k.okK = true then (if k.levels.length < 4 then (⟨k.sig, k.levels ++ [[]]⟩, true) else (k, false)) else (⟨⟨[]⟩, []⟩, false)
theorem Stk.push_no {k : Stk} (h : k.okK = false) : k.push = (⟨⟨[]⟩, []⟩, false) := by unfold Stk.push; rw [h]; rfl
theorem Stk.push_full {k : Stk} (h : k.okK = true) (h4 : ¬ k.levels.length < 4) : k.push = (k, false) := by unfold Stk.push; rw [if_pos h, if_neg h4]
theorem Stk.push_yes {k : Stk} (h : k.okK = true) (h4 : k.levels.length < 4) : k.push = (⟨k.sig, k.levels ++ [[]]⟩, true) := by unfold Stk.push; rw [if_pos h, if_pos h4]
theorem Stk.okK_len {k : Stk} (h : k.okK = true) : 1 ≤ k.levels.length ∧ k.levels.length ≤ 4 := by
 simp only [Stk.okK, zeb, decide_eq_true_eq] at h; omega
/-- A stack that comes back, its levels' row the call's own. -/
def StkOut (k : Stk) (w : World) (e : Ending) (w' : World) : Prop := ∃ (sv lv : Value) (fs fp : List Nat) (base : Nat), e = .returned (.agg #[sv, lv]) ∧ RdVs w' k.sig.cd [sv] fs ∧ Fresh w.heap.size w' fs ∧ (∀ b ∈ fs, b < base) ∧ w.heap.size ≤ base ∧ base ≤ w'.heap.size ∧
 Own w' base 32 1 lv (k.levels.map zx) fp ∧ Fresh base w' fp ∧ Below w.heap.size w w'
theorem StkVar.box {w' : World} {k : Stk} {sv lv : Value} {fs fp : List Nat} {base lo : Nat} (hsg : RdVs w' k.sig.cd [sv] fs) (hsf : Fresh lo w' fs) (hsb : ∀ b ∈ fs, b < base) (hlb : lo ≤ base) (hrow : Own w' base 32 1 lv (k.levels.map zx) fp) (hlf : Fresh base w' fp) :
  StkVar (w'.alloc (.cells #[sv, lv] 28)) w'.heap.size lo base k.sig k.levels sv lv fs fp := by
 have hc := zy w' #[sv, lv] 28
 have hb := zb w' (.cells #[sv, lv] 28)
 exact ⟨hc 0, hc 1, fun j => zW _ _ _ _, hsg.below hb, hsf.below hb, hsb, hlb, hrow.below hb, hlf.below hb, fun h => by have := hsf.lt _ h; omega, fun h => by have := hlf.lt _ h; omega, fun h => by have := (hrow.block h).2; omega⟩
/-- .. as it comes back. -/
def PushOut (k : Stk) (w : World) (e : Ending) (w' : World) : Prop := ∃ (us : List Value) (fs : List Nat), e = .returned (.tuple #[.agg us.toArray, .bool k.push.2]) ∧ RdVs w' k.push.1.cd us fs ∧ Fresh w.heap.size w' fs ∧ Below w.heap.size w w'
theorem zbZ (k : Stk) (vs : List Value) (f : List Nat) (w : World) (hbig : wtV k.cd ≤ 1048576) (hv : RdVs w k.cd vs f) :
  Calls Try.prog 27 #[.agg vs.toArray] w (StkOut k w) := by
 obtain ⟨a0, c0, f0, a1, c1, f1, rfl, _, m0, m1⟩ := Stk.open hv
 have hw : wtV k.cd = wtV k.sig.cd + (k.levels.length + wtR (k.levels.map zx)) := by unfold Stk.cd; simp only [zF, zaO, zav, zce, zao]; try omega
 rw [hw] at hbig
 clear hw
 go_enter Try.func27, Try.ntmps27
 go_wp2_with fail
 refine (zby k.sig _ _ _ (by omega) (by exact (Sg.close m0).below (((Below.refl _ _).alloc (Nat.le_refl _) _).alloc (by simp) _))).mono ?_
 rintro e w1 ⟨us, fs, rfl, hr, hfr, hb1⟩
 obtain ⟨sa, sc, sf, rfl, _, n0⟩ := Sg.open hr
 have hbb := zt (n := w.heap.size + 1 + 1) hb1 (by simp)
 obtain ⟨hx, hy, hz, hB⟩ := box2 (w := w) (wr := w1) (cs := #[.slice a0 k.sig.syms.length c0, .slice a1 k.levels.length c1]) (ds := #[.slice none 0 0, .slice none 0 0]) (T := 28) (U := 28) hbb
 have hf2 := fun j => (zaa hbb j).2
 have hfr := hfr.mono (lo' := w.heap.size + 1 + 1) (by simp)
 clear hb1 hbb
 have X1 := hx 1
 simp only [zd2, zd0, zd1] at X1
 have hlk := hfr.lt
 have hwz : w.heap.size < w1.heap.size := by omega
 go_wp2_with fail
 have hU : Below w1.heap.size w1 ((w1.alloc (.cells #[] 32)).alloc (.cells #[.slice sa k.sig.syms.length sc, .slice (some ⟨w1.heap.size, 0, none⟩) 0 0] 28)) := (zb _ _).alloc (by simp) _
 have hc := zy (w1.alloc (.cells #[] 32)) #[.slice sa k.sig.syms.length sc, .slice (some ⟨w1.heap.size, 0, none⟩) 0 0] 28
 have hf := zW (w1.alloc (.cells #[] 32)) #[.slice sa k.sig.syms.length sc, .slice (some ⟨w1.heap.size, 0, none⟩) 0 0] 28
 simp only [World.size_alloc] at hc hf
 have st0 : StkVar ((w1.alloc (.cells #[] 32)).alloc (.cells #[.slice sa k.sig.syms.length sc, .slice (some ⟨w1.heap.size, 0, none⟩) 0 0] 28)) (w1.heap.size + 1) (w.heap.size + 1 + 1) w1.heap.size k.sig [] (.slice sa k.sig.syms.length sc) (.slice (some ⟨w1.heap.size, 0, none⟩) 0 0) fs [] :=
  ⟨hc 0, hc 1, hf, hr.below hU, hfr.below hU, hlk, hz, (Own.empty w1 w1.heap.size 32 1 (Nat.le_refl _)).below (zb _ _), Fresh.nil _ _, fun h => by have := hlk _ h; omega, by simp, by simp [Value.ownBlock]⟩
 clear hc hf
 go_loopw [4] (fun i wr => ∃ (n : Nat) (lv : Value) (fp : List Nat), n ≤ k.levels.length ∧ i = .int .i64 n ∧ StkVar wr (w1.heap.size + 1) (w.heap.size + 1 + 1) w1.heap.size k.sig (k.levels.take n) (.slice sa k.sig.syms.length sc) lv fs fp ∧ Below w1.heap.size w1 wr) (fun i _ => k.levels.length - (intOf i).toNat)
 case atStart => exact ⟨0, _, [], Nat.zero_le _, rfl, st0, hU⟩
 case round =>
  clear st0 hU
  obtain ⟨n, lv, fp, hnl, rfl, st, hbw⟩ := hrel
  have x1 := za X1 hbw
  have y1 := st.c1
  have g1 := st.fr 1
  have hob := st.lt
  have hz1 := hbw.size
  by_cases hlt : n < k.levels.length
  ·have m1w := m1.below (hB.trans (hbw.mono (by omega)))
   obtain ⟨bk, off, rfl, hbs, _⟩ := zp m1w (by omega)
   obtain ⟨la, lc, lf, d0, hkd, _⟩ := zaN m1w hlt
   have hle := zJ zx k.levels (n + 1)
   rw [zP zx k.levels n hlt, zx, zao] at hle
   have hown := st.row
   clear m1w
   go_wp2_with fail
   have tok1 : True := trivial
   go_region_law (first
    | (have _t := @hown2; go_loud (refine zR zaA rfl _ _ rfl w1.heap.size _ _ fp rfl (by exact hown2) ⟨w2.heap.size, 0, none⟩ 1 1 [zx k.levels[n]] [.slice p3 k.levels[n].length q3] fp3 rfl rfl (by simpa [zx] using RdVs.single hr3') (by simp [zx]) (by exact zr _ _ _) (by exact hown.away (Nat.le_refl _) hf3) (by have hl := zac zx k.levels n; omega) (by have hl := zac zx k.levels n; omega) (by simp; omega) ?_); intro v' w4 hown4 hg hv' hs4; obtain ⟨a4', n4', c4', rfl⟩ := hown4.form'; have hm4 := Moved.after (hb3.alloc hb3.size _) ⟨hg, hv'⟩; have hcb4 := hm4.block st.lt st.nr; have y1' := zg hcb4 y1; have g1' := zl hcb4 g1)
    | (have _t := tok1; clear _t tok1; go_simp; go_at_call 45; refine (zdO k.levels[n] _ _ _ (by omega) (by exact hkd.below (zm _))).mono ?_; rintro e w2 ⟨kv3, fp3, rfl, hr3, hf3, hb3⟩; obtain ⟨p3, q3, rfl, _, _⟩ := zi hr3; have hb3 := zc hb3; have hz2 := hb3.size; have hlz : w1.heap.size + 1 < w2.heap.size := (by omega); have hbk := hb3.block (w1.heap.size + 1) (by omega); have y1w := zg hbk y1; have g1w := zl hbk g1; clear hbk; have hown2 := hown.below (hb3.alloc hb3.size (.cells #[.slice p3 k.levels[n].length q3] 32)); have hr3' := hr3.below (zb w2 (.cells #[.slice p3 k.levels[n].length q3] 32))))
   all_goals
    have hfr4 := ((Fresh.app (st.lf.below hb3) st.lf.lt hz1 hf3).below (zb w2 (.cells #[.slice p3 k.levels[n].length q3] 32))).same hs4
    have st4 := st.app (ls' := k.levels.take (n + 1)) (by rw [zd4 hlt, zd8]; simpa using hown4) hfr4 (fun h => by
     rcases zd5.1 h with h | h
     ·exact st.nf h
     ·have h9 : wr.heap.size ≤ _ := (hf3.2 _ h).1
      omega) hm4
    have hbw4 : Below w1.heap.size w1 (w4.setCell ⟨w1.heap.size + 1, 1, none⟩ (.slice a4' n4' c4')) := (hbw.trans (hm4.toBelow hz1 (fun q hq => (hown.block hq).1))).setCell (by simp) _
    go_wp2_with fail
    go_roundw
    case rel => exact ⟨n + 1, _, _, by omega, by go_num, st4, hbw4⟩
    case measure => simp [intOf]; omega
  ·have he : k.levels.take n = k.levels := List.take_of_length_le (by omega)
   rw [he] at st
   clear he
   obtain ⟨la, ln, lc, rfl⟩ := st.row.form'
   have hyw : ∀ j, wr.cell? ⟨w.heap.size + 1, j, none⟩ = (#[.slice none 0 0, .slice none 0 0] : Array Value)[j]? := zd hy (by omega) hbw
   have hfw : ∀ j, wr.frozen? ⟨w.heap.size + 1, j, none⟩ = false := zj hf2 (by omega) hbw
   have y0' := hyw 0
   have y1' := hyw 1
   have g0' := hfw 0
   have g1' := hfw 1
   simp only [zd2, zd0, zd1] at y0' y1'
   have s0 := st.c0
   have hres := zC (b := w.heap.size + 1) [(0, .slice sa k.sig.syms.length sc), (1, .slice la ln lc)] hyw (by simp)
   have r0 := hres 0
   have r1 := hres 1
   simp only [zo, zaq, zdY, zdZ, zd2, zd0, zd1] at r0 r1
   have hn1 : w.heap.size + 1 ∉ fs := fun h => by have := (st.sf.2 _ h).1; omega
   have hn2 : w.heap.size + 1 ∉ fp := fun h => by have := (st.lf.2 _ h).1; omega
   have hn3 : (Value.slice la ln lc).ownBlock ≠ some (w.heap.size + 1) := fun h => by have := (st.row.block h).1; omega
   have hs1 := zY (w := wr) (i := 0) (j := 1) (u := .slice sa k.sig.syms.length sc) (v := .slice la ln lc) (fun b hb (e : b = w.heap.size + 1) => hn1 (e ▸ hb))
   have hs2 := zY (w := wr) (i := 0) (j := 1) (u := .slice sa k.sig.syms.length sc) (v := .slice la ln lc) (fun b hb (e : b = w.heap.size + 1) => hn2 (e ▸ hb))
   have hBe := hB.trans (hbw.mono (by omega))
   clear hres hyw hfw
   go_wp2_with fail
   refine bodyPost_ret (v := .agg #[.slice sa k.sig.syms.length sc, .slice la ln lc]) (by simp [results, Try.results27, go_sem, r0, r1]) rfl ?_
   exact ⟨_, _, fs, fp, w1.heap.size, rfl, st.sg.same _ hs1, (st.sf.same hs1).mono (by omega), st.sb, hB.size, by rw [World.size_setCell, World.size_setCell]; exact hbw.size, (st.row.set_apart hn2 hn3).set_apart hn2 hn3, st.lf.same hs2, (hBe.setCell (by simp) _).setCell (by simp) _⟩
theorem za5 (k : Stk) (vs : List Value) (f : List Nat) (w : World) (hbig : wtV k.cd ≤ 1048576) (hv : RdVs w k.cd vs f) :
  Calls Try.prog 10 #[.agg vs.toArray] w (PushOut k w) := by
 obtain ⟨a0, c0, f0, a1, c1, f1, rfl, _, m0, m1⟩ := Stk.open hv
 go_enter Try.func10, Try.ntmps10
 go_wp2_with fail
 refine (zaJ k _ _ _ hbig (by exact hv.below (((Below.refl _ _).alloc (Nat.le_refl _) _).alloc (by simp) _))).mono ?_
 rintro e w1 ⟨rfl, hb1⟩
 have hbb := zt (n := w.heap.size + 1 + 1) hb1 (by simp)
 obtain ⟨hx, hy, hz, hB⟩ := box2 (w := w) (wr := w1) (cs := #[.slice a0 k.sig.syms.length c0, .slice a1 k.levels.length c1]) (ds := #[.slice none 0 0, .slice none 0 0]) (T := 28) (U := 28) hbb
 have hf2 := fun j => (zaa hbb j).2
 clear hb1 hbb
 have X0 := hx 0
 have X1 := hx 1
 simp only [zd2, zd0, zd1] at X0 X1
 cases hok : k.okK
 ·have HM := Lib.hid (Stk.push_no hok)
  clear hok
  have y0 := hy 0
  have y1 := hy 1
  have g0 := hf2 0
  have g1 := hf2 1
  simp only [zd2, zd0, zd1] at y0 y1
  have hres := zC (b := w.heap.size + 1) [(0, .slice none 0 0), (1, .slice none 0 0)] hy (by simp)
  have r0 := hres 0
  have r1 := hres 1
  simp only [zo, zaq, zdY, zdZ, zd2, zd0, zd1] at r0 r1
  clear hres hx hy hf2
  go_wp2_with fail
  (try simp only [Exit.inBlock, Exit.then])
  refine bodyPost_ret (v := .tuple #[.agg #[.slice none 0 0, .slice none 0 0], .bool false]) (by simp [results, Try.results10, go_sem, r0, r1]) rfl ?_
  exact ⟨[_, _], [], by rw [HM.out], by rw [HM.out]; exact zck _, Fresh.nil _ _, (hB.setCell (by simp) _).setCell (by simp) _⟩
 have hlen := Stk.okK_len hok
 have HOK := Lib.hid hok
 clear hok
 go_wp2_with fail
 refine (zbZ k _ _ _ hbig (by exact hv.below hB)).mono ?_
 rintro e w2 ⟨sv, lv, fs, fp, base, rfl, hsg, hsf, hsb, hlb, hbz, hrow, hlf, hb2⟩
 obtain ⟨sa, sc, sf, hsv, _, n0⟩ := Sg.open hsg
 obtain rfl := (List.cons.inj hsv).1
 obtain ⟨la, lc, rfl, _, _⟩ := hrow.form
 rw [zea] at hrow ⊢
 have st := StkVar.box hsg hsf hsb hlb hrow hlf
 have hbw := hb2.trans ((zb w2 (.cells #[.slice sa k.sig.syms.length sc, .slice la k.levels.length lc] 28)).mono hb2.size)
 have hw2 := hb2.size
 clear hsg hsf hsb hrow hlf hb2 hsv n0
 go_upto_region 4 with fail
 generalize w2.alloc (.cells #[.slice sa k.sig.syms.length sc, .slice la k.levels.length lc] 28) = wb at *
 have s1' := st.c1
 have hob := st.lt
 by_cases h4 : k.levels.length < 4
 rotate_left
 ·have HM := Lib.hid (Stk.push_full HOK.out h4)
  have h4b : decide ((4 : Int) ≤ (k.levels.length : Int)) = true := by simp; omega
  have hyw : ∀ j, wb.cell? ⟨w.heap.size + 1, j, none⟩ = (#[.slice none 0 0, .slice none 0 0] : Array Value)[j]? := zd hy (by omega) hbw
  have hfw : ∀ j, wb.frozen? ⟨w.heap.size + 1, j, none⟩ = false := zj hf2 (by omega) hbw
  have y0' := hyw 0
  have y1' := hyw 1
  have g0' := hfw 0
  have g1' := hfw 1
  simp only [zd2, zd0, zd1] at y0' y1'
  have s0 := st.c0
  have s1 := st.c1
  obtain ⟨fq, hro, hfo⟩ := st.out
  have hres := zC (b := w.heap.size + 1) [(0, .slice sa k.sig.syms.length sc), (1, .slice la k.levels.length lc)] hyw (by simp)
  have r0 := hres 0
  have r1 := hres 1
  simp only [zo, zaq, zdY, zdZ, zd2, zd0, zd1] at r0 r1
  have hs2 := zY (w := wb) (i := 0) (j := 1) (u := .slice sa k.sig.syms.length sc) (v := .slice la k.levels.length lc) (hfo.ne (b := w.heap.size + 1) (by omega))
  have hro2 := hro.same _ hs2
  have hfo2 := hfo.same hs2
  have hBe := hB.trans (hbw.mono (by omega))
  clear hres hyw hfw
  go_wp2_with fail
  (try simp only [Exit.inBlock, Exit.then])
  refine bodyPost_ret (v := .tuple #[.agg #[.slice sa k.sig.syms.length sc, .slice la k.levels.length lc], .bool false]) (by simp [results, Try.results10, go_sem, r0, r1]) rfl ?_
  exact ⟨[_, _], fs ++ fq, by rw [HM.out], by rw [HM.out]; exact hro2, hfo2.mono (by omega), (hBe.setCell (by simp) _).setCell (by simp) _⟩
 ·have HM := Lib.hid (Stk.push_yes HOK.out h4)
  have h4b : decide ((4 : Int) ≤ (k.levels.length : Int)) = false := by simp; omega
  have ALB : Below wb.heap.size wb ((wb.alloc (.cells #[] 52)).alloc (.cells #[.slice (some ⟨wb.heap.size, 0, none⟩) 0 0] 32)) := (zb _ _).alloc (by simp) _
  have hown := st.row.below ALB
  have hlm : (k.levels.map zx).length = k.levels.length := by simp
  have hbz2 := hbw.size
  go_wp2_with (at_builtin; refine zH zaA rfl _ _ rfl base _ _ fp rfl hown ⟨(wb.heap.size + 1), 0, none⟩ 1 1 [zx []] [.slice (some ⟨wb.heap.size, 0, none⟩) 0 0] [] rfl rfl ?rd ?kk ?cells ?na ?bytes ?len ?base ?next)
  case rd => exact by simpa [zx] using RdVs.single (zc6 (es := ([] : List Fm).map Fm.cd) rfl _)
  case kk => simp [zx]
  case cells => intro j u hj; have := zr (wb.alloc (.cells #[] 52)) [.slice (some ⟨wb.heap.size, 0, none⟩) 0 0] 32 j u hj; simpa using this
  case na => simp
  case bytes => omega
  case len => omega
  case base => exact Nat.le_trans (by omega) ALB.size
  case next =>
   intro v' w6 hown6 hg hv' hs6
   have hm6 := Moved.after ALB ⟨hg, fun b hb => by simpa using hv' b hb⟩
   have F1 : w6.frozen? ⟨w2.heap.size, 1, none⟩ = false := zl (hm6.block st.lt st.nr) (st.fr 1)
   have D1 := zg (hm6.block st.lt st.nr) st.c1
   have st6 := st.app (ls' := k.levels ++ [[]]) (by simpa using hown6) (fp' := fp) ((st.lf.below ALB).same (by simpa using hs6)) st.nf hm6
   have hb6 := (hbw.trans (hm6.toBelow (B := w1.heap.size) (by omega) (fun b hb => by have := (st.row.block hb).1; omega))).setCell (p := ⟨w2.heap.size, 1, none⟩) (by simp only; omega) v'
   obtain ⟨ta, tn, tc, rfl⟩ := hown6.form'
   clear hown hown6 hg hv' hs6 hm6 ALB st
   have hyw : ∀ j, (w6.setCell ⟨w2.heap.size, 1, none⟩ (.slice ta tn tc)).cell? ⟨w.heap.size + 1, j, none⟩ = (#[.slice none 0 0, .slice none 0 0] : Array Value)[j]? := zd hy (by omega) hb6
   have hfw : ∀ j, (w6.setCell ⟨w2.heap.size, 1, none⟩ (.slice ta tn tc)).frozen? ⟨w.heap.size + 1, j, none⟩ = false := zj hf2 (by omega) hb6
   have y0' := hyw 0
   have y1' := hyw 1
   have g0' := hfw 0
   have g1' := hfw 1
   simp only [zd2, zd0, zd1] at y0' y1'
   have s0 := st6.c0
   have s1 := st6.c1
   obtain ⟨fq, hro, hfo⟩ := st6.out
   have hres := zC (b := w.heap.size + 1) [(0, .slice sa k.sig.syms.length sc), (1, (.slice ta tn tc))] hyw (by simp)
   have r0 := hres 0
   have r1 := hres 1
   simp only [zo, zaq, zdY, zdZ, zd2, zd0, zd1] at r0 r1
   have hs2 := zY (w := (w6.setCell ⟨w2.heap.size, 1, none⟩ (.slice ta tn tc))) (i := 0) (j := 1) (u := .slice sa k.sig.syms.length sc) (v := (.slice ta tn tc)) (hfo.ne (b := w.heap.size + 1) (by omega))
   have hro2 := hro.same _ hs2
   have hfo2 := hfo.same hs2
   have hBe := hB.trans (hb6.mono (by omega))
   clear hres hyw hfw
   go_wp2_with fail
   (try simp only [Exit.inBlock, Exit.then])
   refine bodyPost_ret (v := .tuple #[.agg #[.slice sa k.sig.syms.length sc, (.slice ta tn tc)], .bool true]) (by simp [results, Try.results10, go_sem, r0, r1]) rfl ?_
   exact ⟨[_, _], fs ++ fq, by rw [HM.out], by rw [HM.out]; exact hro2, hfo2.mono (by omega), (hBe.setCell (by simp) _).setCell (by simp) _⟩
end Go.Proofs.Yticlgpkjdmcnaaa
end
