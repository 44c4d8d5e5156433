/- Parts of the proof: StkP Lvs StkQ TakeL StkR. -/
import Derived.OwnWalk
import Derived.Deep.CutRange
import Derived.Test.YtbfinjiledfpcaaGreatPT15
import Derived.Test.YtbfinjiledfpcaaGreatPT5
import Derived.Test.YtbfinjiledfpcaaGreatPT1
section
namespace Go.Proofs.YtbfinjiledfpcaaGreat
open Go Go.RowKit
set_option linter.unusedVariables false
set_option linter.unusedSimpArgs false
set_option maxRecDepth 100000
set_option maxHeartbeats 16000000
theorem Own.set_apart {w : World} {base e k : Nat} {v : Value} {es : List (List CD)} {fp : List Nat} (h : Own w base e k v es fp) {b j : Nat} {u : Value} (hn : b ∉ fp) (ho : v.ownBlock ≠ some b) : Own (w.setCell ⟨b, j, none⟩ u) base e k v es fp :=
 h.same (zD (fun x hx (e : x = b) => hn (e ▸ hx))) fun x hx => Below.heap_setCell _ _ _ _ (fun e : x = b => ho (e ▸ hx))
/-- A stack in block ob: its words, its levels. -/
structure StkVar (w : World) (ob lo base : Nat) (s : Sg) (ls : List (List Fm)) (sv lv : Value) (fs fp : List Nat) : Prop where
 c0 : w.cell? ⟨ob, 0, none⟩ = some sv
 c1 : w.cell? ⟨ob, 1, none⟩ = some lv
 fr : ∀ j, w.frozen? ⟨ob, j, none⟩ = false
 sg : RdVs w s.cd [sv] fs
 sf : Fresh lo w fs
 sb : ∀ b ∈ fs, b < base
 lb : lo ≤ base
 row : Own w base 34 1 lv (ls.map zG) fp
 lf : Fresh base w fp
 ns : ob ∉ fs
 nf : ob ∉ fp
 nr : lv.ownBlock ≠ some ob
theorem StkVar.lt {w : World} {ob lo base : Nat} {s : Sg} {ls : List (List Fm)} {sv lv : Value} {fs fp : List Nat} (h : StkVar w ob lo base s ls sv lv fs fp) : ob < w.heap.size := World.block_lt_of_cell? w _ h.c0
theorem StkVar.app {w w4 : World} {ob lo base : Nat} {s : Sg} {ls ls' : List (List Fm)} {sv lv lv' : Value} {fs fp fp' : List Nat} (h : StkVar w ob lo base s ls sv lv fs fp) (hown : Own w4 base 34 1 lv' (ls'.map zG) fp') (hf : Fresh base w4 fp') (hnf : ob ∉ fp') (hm : Moved w lv w4 lv') :
  StkVar (w4.setCell ⟨ob, 1, none⟩ lv') ob lo base s ls' sv lv' fs fp' := by
 have hcb := hm.block h.lt h.nr; have hsg := hm.same h.sf.lt (fun b hb => h.row.row_ne (h.sb b hb)); have hs2 := hsg.trans (zD (a := ⟨ob, 1, none⟩) (v := lv') (w := w4) (fun b hb (e : b = ob) => h.ns (e ▸ hb)))
 have hnr : lv'.ownBlock ≠ some ob := fun e => by
  rcases hm.2 ob e with h1 | h1
  ·exact h.nr h1
  ·have := h.lt; omega
 refine ⟨?_, ?_, fun j => ?_, h.sg.same _ hs2, h.sf.same hs2, h.sb, h.lb, hown.set_apart hnf hnr, hf.same (zD (fun b hb (e : b = ob) => hnf (e ▸ hb))), h.ns, hnf, hnr⟩
 ·rw [zgt _ _ _ _ (by simp)]; exact ze hcb h.c0
 ·exact zgu _ _ _ (ze hcb h.c1)
 ·rw [World.frozen?_setCell]; exact zp hcb (h.fr j)
theorem rd_sl00 {w : World} {es : List (List CD)} (he : es = []) (a : Option Addr) : Rd w (.sl es) (.slice a 0 0) [] := by
 subst he; simp only [Rd]; exact ⟨a, 0, rfl, by simp, by simp [maxLen], by simp⟩
theorem StkVar.out {w : World} {ob lo base : Nat} {s : Sg} {ls : List (List Fm)} {sv lv : Value} {fs fp : List Nat} (h : StkVar w ob lo base s ls sv lv fs fp) : ∃ fq, RdVs w (Stk.mk s ls).cd [sv, lv] (fs ++ fq) ∧ Fresh lo w (fs ++ fq) := by
 obtain ⟨fq, h1, h2, _⟩ := h.row.fresh h.lf; refine ⟨fq, ?_, h.sf.app h.sb h.lb h2⟩; unfold Stk.cd; exact h.sg.app (RdVs.single h1)
theorem zbQ (w : World) : RdVs w (Stk.mk ⟨[]⟩ []).cd [.slice none 0 0, .slice none 0 0] [] := by
 have h1 := RdVs.single (zbi w Sy.cd); have h2 := RdVs.single (zbi w zG); exact h1.app h2
/-- StackPush. -/
def Stk.push (k : Stk) : Stk × Bool := if k.okK = true then (if k.E.length < 4 then (⟨k.sig, k.E ++ [[]]⟩, true) else (k, false)) else (⟨⟨[]⟩, []⟩, false)
theorem Stk.push_no {k : Stk} (h : k.okK = false) : k.push = (⟨⟨[]⟩, []⟩, false) := by unfold Stk.push; rw [h]; rfl
theorem Stk.push_full {k : Stk} (h : k.okK = true) (h4 : ¬ k.E.length < 4) : k.push = (k, false) := by unfold Stk.push; rw [if_pos h, if_neg h4]
theorem Stk.push_yes {k : Stk} (h : k.okK = true) (h4 : k.E.length < 4) : k.push = (⟨k.sig, k.E ++ [[]]⟩, true) := by unfold Stk.push; rw [if_pos h, if_pos h4]
theorem Stk.okK_len {k : Stk} (h : k.okK = true) : 1 ≤ k.E.length ∧ k.E.length ≤ 4 := by
 simp only [Stk.okK, zgm, decide_eq_true_eq] at h; omega
/-- A stack that comes back, its levels' row the call's own. -/
def StkOut (k : Stk) (w : World) (e : Ending) (w' : World) : Prop := ∃ (sv lv : Value) (fs fp : List Nat) (base : Nat), e = .returned (.agg #[sv, lv]) ∧ RdVs w' k.sig.cd [sv] fs ∧ Fresh w.heap.size w' fs ∧ (∀ b ∈ fs, b < base) ∧ w.heap.size ≤ base ∧ base ≤ w'.heap.size ∧
 Own w' base 34 1 lv (k.E.map zG) fp ∧ Fresh base w' fp ∧ Below w.heap.size w w'
theorem StkVar.box {w' : World} {k : Stk} {sv lv : Value} {fs fp : List Nat} {base lo : Nat} (hsg : RdVs w' k.sig.cd [sv] fs) (hsf : Fresh lo w' fs) (hsb : ∀ b ∈ fs, b < base) (hlb : lo ≤ base) (hrow : Own w' base 34 1 lv (k.E.map zG) fp) (hlf : Fresh base w' fp) :
  StkVar (w'.alloc (.cells #[sv, lv] 53)) w'.heap.size lo base k.sig k.E sv lv fs fp := by
 have hc := zt w' #[sv, lv] 53; have hb := zb w' (.cells #[sv, lv] 53); exact ⟨hc 0, hc 1, fun j => zR _ _ _ _, hsg.below hb, hsf.below hb, hsb, hlb, hrow.below hb, hlf.below hb, fun h => by have := hsf.lt _ h; omega, fun h => by have := hlf.lt _ h; omega, fun h => by have := (hrow.block h).2; omega⟩
/-- .. as it comes back. -/
def PushOut (k : Stk) (w : World) (e : Ending) (w' : World) : Prop := ∃ (us : List Value) (fs : List Nat), e = .returned (.tuple #[.agg us.toArray, .bool k.push.2]) ∧ RdVs w' k.push.1.cd us fs ∧ Fresh w.heap.size w' fs ∧ Below w.heap.size w w'
theorem zcQ (k : Stk) (vs : List Value) (f : List Nat) (w : World) (hbig : wtV k.cd ≤ 1048576) (hv : RdVs w k.cd vs f) :
  Calls Tryz.prog 65 #[.agg vs.toArray] w (StkOut k w) := by
 obtain ⟨a0, c0, f0, a1, c1, f1, rfl, _, m0, m1⟩ := Stk.open hv
 have hw : wtV k.cd = wtV k.sig.cd + (k.E.length + wtR (k.E.map zG)) := by unfold Stk.cd; simp only [zI, zaS, zav, zb0, zaj]; try omega
 rw [hw] at hbig; clear hw; go_enter Tryz.func65, Tryz.ntmps65; go_wp2_with fail; refine (zb3 k.sig _ _ _ (by omega) (by exact (Sg.close m0).below (((zgz _ _).alloc (zgo _) _).alloc (by simp) _))).mono ?_; rintro e w1 ⟨us, fs, rfl, hr, hfr, hb1⟩; obtain ⟨sa, sc, sf, rfl, _, n0⟩ := Sg.open hr; have hbb := zm (n := w.heap.size + 1 + 1) hb1 (by simp); obtain ⟨hx, hy, hz, hB⟩ := box2 (w := w) (wr := w1) (cs := #[.slice a0 k.sig.Y.length c0, .slice a1 k.E.length c1]) (ds := #[.slice none 0 0, .slice none 0 0]) (T := 53) (U := 53) hbb; have hf2 := fun j => (zJ hbb j).2; have hfr := hfr.mono (lo' := w.heap.size + 1 + 1) (by simp); clear hb1 hbb; have X1 := hx 1; simp only [zgd, zgb, zgc] at X1; have hlk := hfr.lt
 have hwz : w.heap.size < w1.heap.size := by omega
 go_wp2_with fail; have hU : Below w1.heap.size w1 ((w1.alloc (.cells #[] 34)).alloc (.cells #[.slice sa k.sig.Y.length sc, .slice (some ⟨w1.heap.size, 0, none⟩) 0 0] 53)) := (zb _ _).alloc (by simp) _; have hc := zt (w1.alloc (.cells #[] 34)) #[.slice sa k.sig.Y.length sc, .slice (some ⟨w1.heap.size, 0, none⟩) 0 0] 53; have hf := zR (w1.alloc (.cells #[] 34)) #[.slice sa k.sig.Y.length sc, .slice (some ⟨w1.heap.size, 0, none⟩) 0 0] 53; simp only [zgs] at hc hf
 have st0 : StkVar ((w1.alloc (.cells #[] 34)).alloc (.cells #[.slice sa k.sig.Y.length sc, .slice (some ⟨w1.heap.size, 0, none⟩) 0 0] 53)) (w1.heap.size + 1) (w.heap.size + 1 + 1) w1.heap.size k.sig [] (.slice sa k.sig.Y.length sc) (.slice (some ⟨w1.heap.size, 0, none⟩) 0 0) fs [] :=
  ⟨hc 0, hc 1, hf, hr.below hU, hfr.below hU, hlk, hz, (Own.empty w1 w1.heap.size 34 1 (zgo _)).below (zb _ _), Fresh.nil _ _, fun h => by have := hlk _ h; omega, by simp, by simp [Value.ownBlock]⟩
 clear hc hf
 go_loopw [4] (fun i wr => ∃ (n : Nat) (lv : Value) (fp : List Nat), n ≤ k.E.length ∧ i = .int .i64 n ∧ StkVar wr (w1.heap.size + 1) (w.heap.size + 1 + 1) w1.heap.size k.sig (k.E.take n) (.slice sa k.sig.Y.length sc) lv fs fp ∧ Below w1.heap.size w1 wr) (fun i _ => k.E.length - (intOf i).toNat)
 case atStart => exact ⟨0, _, [], zgx _, rfl, st0, hU⟩
 case round =>
  clear st0 hU; obtain ⟨n, lv, fp, hnl, rfl, st, hbw⟩ := hrel; have x1 := za X1 hbw; have y1 := st.c1; have g1 := st.fr 1; have hob := st.lt; have hz1 := hbw.size
  by_cases hlt : n < k.E.length
  ·have m1w := m1.below (hB.trans (hbw.mono (by omega)))
   obtain ⟨bk, off, rfl, hbs, _⟩ := zl m1w (by omega); obtain ⟨la, lc, lf, d0, hkd, _⟩ := za4 m1w hlt; have hle := zu zG k.E (n + 1); rw [zC zG k.E n hlt, zG, zaj] at hle; have hown := st.row; clear m1w; go_wp2_with fail; have tok1 : True := trivial
   go_region_law (first
    | (have _t := @hown2; go_loud (refine zO za2 rfl _ _ rfl w1.heap.size _ _ fp rfl (by exact hown2) ⟨w2.heap.size, 0, none⟩ 1 1 [zG k.E[n]] [.slice p3 k.E[n].length q3] fp3 rfl rfl (by simpa [zG] using RdVs.single hr3') (by simp [zG]) (by exact zq _ _ _) (by exact hown.away (zgo _) hf3) (by have hl := zai zG k.E n; omega) (by have hl := zai zG k.E n; omega) (by simp; omega) ?_); intro v' w4 hown4 hg hv' hs4; obtain ⟨a4', n4', c4', rfl⟩ := hown4.form'; have hm4 := Moved.after (hb3.alloc hb3.size _) ⟨hg, hv'⟩; have hcb4 := hm4.block st.lt st.nr; have y1' := ze hcb4 y1; have g1' := zp hcb4 g1)
    | (have _t := tok1; clear _t tok1; go_simp; go_at_call 61; refine (zfL k.E[n] _ _ _ (by omega) (by exact hkd.below (zj _))).mono ?_; rintro e w2 ⟨kv3, fp3, rfl, hr3, hf3, hb3⟩; obtain ⟨p3, q3, rfl, _, _⟩ := zg hr3; have hb3 := zc hb3; have hz2 := hb3.size; have hlz : w1.heap.size + 1 < w2.heap.size := (by omega); have hbk := hb3.block (w1.heap.size + 1) (by omega); have y1w := ze hbk y1; have g1w := zp hbk g1; clear hbk; have hown2 := hown.below (hb3.alloc hb3.size (.cells #[.slice p3 k.E[n].length q3] 34)); have hr3' := hr3.below (zb w2 (.cells #[.slice p3 k.E[n].length q3] 34))))
   all_goals
    have hfr4 := ((Fresh.app (st.lf.below hb3) st.lf.lt hz1 hf3).below (zb w2 (.cells #[.slice p3 k.E[n].length q3] 34))).same hs4
    have st4 := st.app (ls' := k.E.take (n + 1)) (by rw [zgf hlt, zgj]; simpa using hown4) hfr4 (fun h => by
     rcases zgg.1 h with h | h
     ·exact st.nf h
     ·have h9 : wr.heap.size ≤ _ := (hf3.2 _ h).1
      omega) hm4
    have hbw4 : Below w1.heap.size w1 (w4.setCell ⟨w1.heap.size + 1, 1, none⟩ (.slice a4' n4' c4')) := (hbw.trans (hm4.toBelow hz1 (fun q hq => (hown.block hq).1))).setCell (by simp) _; go_wp2_with fail; go_roundw
    case rel => exact ⟨n + 1, _, _, by omega, by go_num, st4, hbw4⟩
    case measure => simp [intOf]; omega
  ·have he : k.E.take n = k.E := zgq (by omega)
   rw [he] at st; clear he; obtain ⟨la, ln, lc, rfl⟩ := st.row.form'; have hyw : ∀ j, wr.cell? ⟨w.heap.size + 1, j, none⟩ = (#[.slice none 0 0, .slice none 0 0] : Array Value)[j]? := zh hy (by omega) hbw; have hfw : ∀ j, wr.frozen? ⟨w.heap.size + 1, j, none⟩ = false := zK hf2 (by omega) hbw; have y0' := hyw 0; have y1' := hyw 1; have g0' := hfw 0; have g1' := hfw 1; simp only [zgd, zgb, zgc] at y0' y1'; have s0 := st.c0; have hres := zw (b := w.heap.size + 1) [(0, .slice sa k.sig.Y.length sc), (1, .slice la ln lc)] hyw (by simp); have r0 := hres 0; have r1 := hres 1; simp only [zi, zag, zfZ, zga, zgd, zgb, zgc] at r0 r1
   have hn1 : w.heap.size + 1 ∉ fs := fun h => by have := (st.sf.2 _ h).1; omega
   have hn2 : w.heap.size + 1 ∉ fp := fun h => by have := (st.lf.2 _ h).1; omega
   have hn3 : (Value.slice la ln lc).ownBlock ≠ some (w.heap.size + 1) := fun h => by have := (st.row.block h).1; omega
   have hs1 := zP (w := wr) (i := 0) (j := 1) (u := .slice sa k.sig.Y.length sc) (v := .slice la ln lc) (fun b hb (e : b = w.heap.size + 1) => hn1 (e ▸ hb)); have hs2 := zP (w := wr) (i := 0) (j := 1) (u := .slice sa k.sig.Y.length sc) (v := .slice la ln lc) (fun b hb (e : b = w.heap.size + 1) => hn2 (e ▸ hb)); have hBe := hB.trans (hbw.mono (by omega)); clear hres hyw hfw; go_wp2_with fail; refine bodyPost_ret (v := .agg #[.slice sa k.sig.Y.length sc, .slice la ln lc]) (by simp [results, Tryz.results65, go_sem, r0, r1]) rfl ?_; exact ⟨_, _, fs, fp, w1.heap.size, rfl, st.sg.same _ hs1, (st.sf.same hs1).mono (by omega), st.sb, hB.size, by rw [World.size_setCell, World.size_setCell]; exact hbw.size, (st.row.set_apart hn2 hn3).set_apart hn2 hn3, st.lf.same hs2, (hBe.setCell (by simp) _).setCell (by simp) _⟩
theorem zde (k : Stk) (vs : List Value) (f : List Nat) (w : World) (hbig : wtV k.cd ≤ 1048576) (hv : RdVs w k.cd vs f) :
  Calls Tryz.prog 28 #[.agg vs.toArray] w (PushOut k w) := by
 obtain ⟨a0, c0, f0, a1, c1, f1, rfl, _, m0, m1⟩ := Stk.open hv; go_enter Tryz.func28, Tryz.ntmps28; go_wp2_with fail; refine (zaO k _ _ _ hbig (by exact hv.below (((zgz _ _).alloc (zgo _) _).alloc (by simp) _))).mono ?_; rintro e w1 ⟨rfl, hb1⟩; have hbb := zm (n := w.heap.size + 1 + 1) hb1 (by simp); obtain ⟨hx, hy, hz, hB⟩ := box2 (w := w) (wr := w1) (cs := #[.slice a0 k.sig.Y.length c0, .slice a1 k.E.length c1]) (ds := #[.slice none 0 0, .slice none 0 0]) (T := 53) (U := 53) hbb; have hf2 := fun j => (zJ hbb j).2; clear hb1 hbb; have X0 := hx 0; have X1 := hx 1; simp only [zgd, zgb, zgc] at X0 X1
 cases hok : k.okK
 ·have HM := zgn (Stk.push_no hok)
  clear hok; have y0 := hy 0; have y1 := hy 1; have g0 := hf2 0; have g1 := hf2 1; simp only [zgd, zgb, zgc] at y0 y1; have hres := zw (b := w.heap.size + 1) [(0, .slice none 0 0), (1, .slice none 0 0)] hy (by simp); have r0 := hres 0; have r1 := hres 1; simp only [zi, zag, zfZ, zga, zgd, zgb, zgc] at r0 r1; clear hres hx hy hf2; go_wp2_with fail
  (try simp only [Exit.inBlock, Exit.then])
  refine bodyPost_ret (v := .tuple #[.agg #[.slice none 0 0, .slice none 0 0], .bool false]) (by simp [results, Tryz.results28, go_sem, r0, r1]) rfl ?_; exact ⟨[_, _], [], by rw [HM.out], by rw [HM.out]; exact zbQ _, Fresh.nil _ _, (hB.setCell (by simp) _).setCell (by simp) _⟩
 have hlen := Stk.okK_len hok; have HOK := zgn hok; clear hok; go_wp2_with fail; refine (zcQ k _ _ _ hbig (by exact hv.below hB)).mono ?_; rintro e w2 ⟨sv, lv, fs, fp, base, rfl, hsg, hsf, hsb, hlb, hbz, hrow, hlf, hb2⟩; obtain ⟨sa, sc, sf, hsv, _, n0⟩ := Sg.open hsg; obtain rfl := (List.cons.inj hsv).1; obtain ⟨la, lc, rfl, _, _⟩ := hrow.form; rw [zgl] at hrow ⊢; have st := StkVar.box hsg hsf hsb hlb hrow hlf; have hbw := hb2.trans ((zb w2 (.cells #[.slice sa k.sig.Y.length sc, .slice la k.E.length lc] 53)).mono hb2.size); have hw2 := hb2.size; clear hsg hsf hsb hrow hlf hb2 hsv n0; go_upto_region 4 with fail; generalize w2.alloc (.cells #[.slice sa k.sig.Y.length sc, .slice la k.E.length lc] 53) = wb at *; have s1' := st.c1; have hob := st.lt
 by_cases h4 : k.E.length < 4
 rotate_left
 ·have HM := zgn (Stk.push_full HOK.out h4)
  have h4b : decide ((4 : Int) ≤ (k.E.length : Int)) = true := by simp; omega
  have hyw : ∀ j, wb.cell? ⟨w.heap.size + 1, j, none⟩ = (#[.slice none 0 0, .slice none 0 0] : Array Value)[j]? := zh hy (by omega) hbw; have hfw : ∀ j, wb.frozen? ⟨w.heap.size + 1, j, none⟩ = false := zK hf2 (by omega) hbw; have y0' := hyw 0; have y1' := hyw 1; have g0' := hfw 0; have g1' := hfw 1; simp only [zgd, zgb, zgc] at y0' y1'; have s0 := st.c0; have s1 := st.c1; obtain ⟨fq, hro, hfo⟩ := st.out; have hres := zw (b := w.heap.size + 1) [(0, .slice sa k.sig.Y.length sc), (1, .slice la k.E.length lc)] hyw (by simp); have r0 := hres 0; have r1 := hres 1; simp only [zi, zag, zfZ, zga, zgd, zgb, zgc] at r0 r1; have hs2 := zP (w := wb) (i := 0) (j := 1) (u := .slice sa k.sig.Y.length sc) (v := .slice la k.E.length lc) (hfo.ne (b := w.heap.size + 1) (by omega)); have hro2 := hro.same _ hs2; have hfo2 := hfo.same hs2; have hBe := hB.trans (hbw.mono (by omega)); clear hres hyw hfw; go_wp2_with fail
  (try simp only [Exit.inBlock, Exit.then])
  refine bodyPost_ret (v := .tuple #[.agg #[.slice sa k.sig.Y.length sc, .slice la k.E.length lc], .bool false]) (by simp [results, Tryz.results28, go_sem, r0, r1]) rfl ?_; exact ⟨[_, _], fs ++ fq, by rw [HM.out], by rw [HM.out]; exact hro2, hfo2.mono (by omega), (hBe.setCell (by simp) _).setCell (by simp) _⟩
 ·have HM := zgn (Stk.push_yes HOK.out h4)
  have h4b : decide ((4 : Int) ≤ (k.E.length : Int)) = false := by simp; omega
  have ALB : Below wb.heap.size wb ((wb.alloc (.cells #[] 36)).alloc (.cells #[.slice (some ⟨wb.heap.size, 0, none⟩) 0 0] 34)) := (zb _ _).alloc (by simp) _; have hown := st.row.below ALB
  have hlm : (k.E.map zG).length = k.E.length := by simp
  have hbz2 := hbw.size; go_wp2_with (at_builtin; refine zz za2 rfl _ _ rfl base _ _ fp rfl hown ⟨(wb.heap.size + 1), 0, none⟩ 1 1 [zG []] [.slice (some ⟨wb.heap.size, 0, none⟩) 0 0] [] rfl rfl ?rd ?kk ?cells ?na ?bytes ?len ?base ?next)
  case rd => exact by simpa [zG] using RdVs.single (rd_sl00 (es := ([] : List Fm).map Fm.cd) rfl _)
  case kk => simp [zG]
  case cells => intro j u hj; have := zq (wb.alloc (.cells #[] 36)) [.slice (some ⟨wb.heap.size, 0, none⟩) 0 0] 34 j u hj; simpa using this
  case na => simp
  case bytes => omega
  case len => omega
  case base => exact zgy (by omega) ALB.size
  case next =>
   intro v' w6 hown6 hg hv' hs6; have hm6 := Moved.after ALB ⟨hg, fun b hb => by simpa using hv' b hb⟩; have F1 : w6.frozen? ⟨w2.heap.size, 1, none⟩ = false := zp (hm6.block st.lt st.nr) (st.fr 1); have D1 := ze (hm6.block st.lt st.nr) st.c1; have st6 := st.app (ls' := k.E ++ [[]]) (by simpa using hown6) (fp' := fp) ((st.lf.below ALB).same (by simpa using hs6)) st.nf hm6; have hb6 := (hbw.trans (hm6.toBelow (B := w1.heap.size) (by omega) (fun b hb => by have := (st.row.block hb).1; omega))).setCell (p := ⟨w2.heap.size, 1, none⟩) (by simp only; omega) v'; obtain ⟨ta, tn, tc, rfl⟩ := hown6.form'; clear hown hown6 hg hv' hs6 hm6 ALB st; have hyw : ∀ j, (w6.setCell ⟨w2.heap.size, 1, none⟩ (.slice ta tn tc)).cell? ⟨w.heap.size + 1, j, none⟩ = (#[.slice none 0 0, .slice none 0 0] : Array Value)[j]? := zh hy (by omega) hb6; have hfw : ∀ j, (w6.setCell ⟨w2.heap.size, 1, none⟩ (.slice ta tn tc)).frozen? ⟨w.heap.size + 1, j, none⟩ = false := zK hf2 (by omega) hb6; have y0' := hyw 0; have y1' := hyw 1; have g0' := hfw 0; have g1' := hfw 1; simp only [zgd, zgb, zgc] at y0' y1'; have s0 := st6.c0; have s1 := st6.c1; obtain ⟨fq, hro, hfo⟩ := st6.out; have hres := zw (b := w.heap.size + 1) [(0, .slice sa k.sig.Y.length sc), (1, (.slice ta tn tc))] hyw (by simp); have r0 := hres 0; have r1 := hres 1; simp only [zi, zag, zfZ, zga, zgd, zgb, zgc] at r0 r1; have hs2 := zP (w := (w6.setCell ⟨w2.heap.size, 1, none⟩ (.slice ta tn tc))) (i := 0) (j := 1) (u := .slice sa k.sig.Y.length sc) (v := (.slice ta tn tc)) (hfo.ne (b := w.heap.size + 1) (by omega)); have hro2 := hro.same _ hs2; have hfo2 := hfo.same hs2; have hBe := hB.trans (hb6.mono (by omega)); clear hres hyw hfw; go_wp2_with fail
   (try simp only [Exit.inBlock, Exit.then])
   refine bodyPost_ret (v := .tuple #[.agg #[.slice sa k.sig.Y.length sc, (.slice ta tn tc)], .bool true]) (by simp [results, Tryz.results28, go_sem, r0, r1]) rfl ?_; exact ⟨[_, _], fs ++ fq, by rw [HM.out], by rw [HM.out]; exact hro2, hfo2.mono (by omega), (hBe.setCell (by simp) _).setCell (by simp) _⟩
structure Lv where
 v : Value
 fs : List Fm
 g : List Nat
def Lv.off (t u : Lv) : Prop := ∀ b, t.v.ownBlock = some b → u.v.ownBlock ≠ some b
/-- A level's row is the call's own; no other row leads to its block. -/
structure Lvs (w : World) (lo : Nat) (lv : Value) (L : List Lv) : Prop where
 row : w.ownsRow lo 34 1 lv L.length (L.map Lv.v)
 own : ∀ t ∈ L, Own w lo 36 12 t.v (t.fs.map Fm.cd) t.g
 two : L.Pairwise Lv.off
 far : ∀ t ∈ L, ∀ u ∈ L, ∀ b, t.v.ownBlock = some b → b ∉ u.g
 nr : ∀ t ∈ L, (∀ b, t.v.ownBlock = some b → lv.ownBlock ≠ some b) ∧ ∀ b ∈ t.g, lv.ownBlock ≠ some b
theorem Lvs.nil (w : World) (lo : Nat) : Lvs w lo (.slice none 0 0) [] := ⟨World.ownsRow_nil w lo _ _, by simp, List.Pairwise.nil, by simp, by simp⟩
theorem Lvs.empty (w : World) (lo : Nat) (h : lo ≤ w.heap.size) : Lvs (w.alloc (.cells #[] 34)) lo (.slice (some ⟨w.heap.size, 0, none⟩) 0 0) [] :=
 ⟨World.ownsRow_made w #[] 0 h (by simp [maxLen]) (by simp), by simp, List.Pairwise.nil, by simp, by simp⟩
theorem Lvs.same {w w' : World} {lo : Nat} {lv : Value} {L : List Lv} (h : Lvs w lo lv L) (h0 : ∀ b, lv.ownBlock = some b → w'.heap[b]? = w.heap[b]?) (h1 : ∀ t ∈ L, (∀ b, t.v.ownBlock = some b → w'.heap[b]? = w.heap[b]?) ∧ SameOn t.g w w') : Lvs w' lo lv L := by
 refine ⟨⟨h.row.1, ?_⟩, fun t ht => (h.own t ht).same (h1 t ht).2 (h1 t ht).1, h.two, h.far, h.nr⟩
 rcases h.row.2 with hn | ⟨g, cap, cur, rfl, hg, hh, rest⟩
 ·exact .inl hn
 ·exact .inr ⟨g, cap, cur, rfl, hg, (h0 g rfl).trans hh, rest⟩
theorem Lvs.lt {w : World} {lo : Nat} {lv : Value} {L : List Lv} (h : Lvs w lo lv L) : (∀ b, lv.ownBlock = some b → lo ≤ b ∧ b < w.heap.size) ∧ ∀ t ∈ L, (∀ b, t.v.ownBlock = some b → lo ≤ b ∧ b < w.heap.size) ∧ ∀ b ∈ t.g, b < w.heap.size :=
 ⟨fun b hb => h.row.lt b hb, fun t ht => ⟨fun b hb => (h.own t ht).block hb, (h.own t ht).lt⟩⟩
theorem Lvs.below {w w' : World} {lo : Nat} {lv : Value} {L : List Lv} (h : Lvs w lo lv L) (hb : Below w.heap.size w w') : Lvs w' lo lv L :=
 h.same (fun b hv => hb.block b (h.lt.1 b hv).2) fun t ht => ⟨fun b hv => hb.block b ((h.lt.2 t ht).1 b hv).2, zah hb (h.lt.2 t ht).2⟩
theorem Lvs.set {w : World} {lo : Nat} {lv : Value} {L : List Lv} (h : Lvs w lo lv L) {b j : Nat} {u : Value} (h0 : lv.ownBlock ≠ some b) (h1 : ∀ t ∈ L, t.v.ownBlock ≠ some b ∧ b ∉ t.g) : Lvs (w.setCell ⟨b, j, none⟩ u) lo lv L :=
 h.same (fun x hx => Below.heap_setCell _ _ _ _ (fun e : x = b => h0 (e ▸ hx))) fun t ht => ⟨fun x hx => Below.heap_setCell _ _ _ _ (fun e : x = b => (h1 t ht).1 (e ▸ hx)), zD (fun x hx (e : x = b) => (h1 t ht).2 (e ▸ hx))⟩
theorem Lvs.form {w : World} {lo : Nat} {lv : Value} {L : List Lv} (h : Lvs w lo lv L) : ∃ a c, lv = .slice a L.length c := by
 rcases h.row.2 with ⟨rfl, h0⟩ | ⟨g, cap, cur, rfl, _⟩
 ·exact ⟨none, 0, by rw [h0]⟩
 ·exact ⟨_, cap, rfl⟩
theorem Lvs.form' {w : World} {lo : Nat} {lv : Value} {L : List Lv} (h : Lvs w lo lv L) : ∃ a n c, lv = .slice a n c := by obtain ⟨a, c, e⟩ := h.form; exact ⟨a, _, c, e⟩
/-- Row of rows, read. -/
theorem Lvs.rdv {w : World} {lo : Nat} {lv : Value} {L : List Lv} (h : Lvs w lo lv L) : ∀ M : List Lv, (∀ t ∈ M, t ∈ L) → ∃ fp, RdVs w ((M.map Lv.fs).map zG).flatten (M.map Lv.v) fp ∧ ∀ b ∈ fp, ∃ t ∈ M, t.v.ownBlock = some b ∨ b ∈ t.g
 | [], _ => ⟨[], by simp [RdVs], by simp⟩
 | t :: M, hM => by
  obtain ⟨fp, h1, h2⟩ := Lvs.rdv h M (fun u hu => hM u (by simp [hu])); obtain ⟨f0, h3, h4⟩ := (h.own t (hM t (by simp))).rd; refine ⟨f0 ++ fp, ?_, fun b hb => ?_⟩
  ·simp only [List.map_cons, List.flatten_cons, zG]
   have := (RdVs.single h3).app h1
   simpa [zG] using this
  ·rcases zgg.1 hb with hb | hb
   ·rcases h4 with ⟨_, _, rfl⟩ | ⟨c, _, hc, rfl, _⟩
    ·simp at hb
    ·rcases zgk.1 hb with rfl | hb
     ·exact ⟨t, by simp, .inl hc⟩
     ·exact ⟨t, by simp, .inr hb⟩
   ·obtain ⟨u, hu, h5⟩ := h2 b hb
    exact ⟨u, by simp [hu], h5⟩
theorem Lvs.toOwn {w : World} {lo : Nat} {lv : Value} {L : List Lv} (h : Lvs w lo lv L) : ∃ fp, Own w lo 34 1 lv ((L.map Lv.fs).map zG) fp ∧ ∀ b ∈ fp, ∃ t ∈ L, t.v.ownBlock = some b ∨ b ∈ t.g := by
 obtain ⟨fp, h1, h2⟩ := h.rdv L (fun t ht => ht); refine ⟨fp, ⟨L.map Lv.v, by simpa using h.row, h1, ?_, fun b hb e => ?_⟩, h2⟩
 ·intro x hx
  simp only [List.mem_map] at hx; obtain ⟨_, ⟨t, _, rfl⟩, rfl⟩ := hx; simp [zG]
 ·obtain ⟨t, ht, h3 | h3⟩ := h2 b hb
  ·exact (h.nr t ht).1 b h3 e
  ·exact (h.nr t ht).2 b h3 e
theorem Lvs.rd {w : World} {lo : Nat} {lv : Value} {L : List Lv} (h : Lvs w lo lv L) : ∃ fp, Rd w (.sl ((L.map Lv.fs).map zG)) lv fp ∧ ∀ b ∈ fp, lv.ownBlock = some b ∨ ∃ t ∈ L, t.v.ownBlock = some b ∨ b ∈ t.g := by
 obtain ⟨fp, h1, h2⟩ := h.toOwn; obtain ⟨fq, h3, h4⟩ := h1.rd; refine ⟨fq, h3, fun b hb => ?_⟩
 rcases h4 with ⟨_, _, rfl⟩ | ⟨c, _, hc, rfl, _⟩
 ·simp at hb
 ·rcases zgk.1 hb with rfl | hb
  ·exact .inl hc
  ·exact .inr (h2 b hb)
theorem Lvs.cell {w : World} {lo q n c : Nat} {L : List Lv} (h : Lvs w lo (.slice (some ⟨q, 0, none⟩) n c) L) {k : Nat} (hk : k < L.length) : w.cell? ⟨q, k, none⟩ = some L[k].v ∧ w.frozen? ⟨q, k, none⟩ = false := by
 have h1 := h.row.cells (g := q) rfl k L[k].v (by simp [hk]); rw [Addr.add_lit] at h1
 have e : n = L.length := by
  obtain ⟨a, c', h2⟩ := h.form; simp only [Value.slice.injEq] at h2; exact h2.2.1
 subst e; exact ⟨by simpa using h1, h.row.frozenAt k⟩
/-- One more level, made since. -/
theorem Lvs.app {w0 w1 w' : World} {lo : Nat} {lv lv' kv : Value} {L : List Lv} {fs : List Fm} {g : List Nat} (h : Lvs w0 lo lv L) (hb : Below w0.heap.size w0 w1) (hkv : Own w1 w0.heap.size 36 12 kv (fs.map Fm.cd) g) (hg : ∀ b ∈ g, w0.heap.size ≤ b) (hlo : lo ≤ w0.heap.size)
  (hr : w'.ownsRow lo 34 1 lv' (L.length + 1) (L.map Lv.v ++ [kv])) (hm : Moved w1 lv w' lv') : Lvs w' lo lv' (L ++ [⟨kv, fs, g⟩]) := by
 have h1 := h.below hb; have hl := h.lt; have hz := hb.size
 have hs : ∀ t ∈ L, (∀ b, t.v.ownBlock = some b → w'.heap[b]? = w1.heap[b]?) ∧ SameOn t.g w1 w' := fun t ht =>
  ⟨fun b hb => hm.block (by have := ((hl.2 t ht).1 b hb).2; omega) ((h.nr t ht).1 b hb), hm.same (fun b hb => by have := (hl.2 t ht).2 b hb; omega) (h.nr t ht).2⟩
 have hn0 : ∀ b, w0.heap.size ≤ b → lv.ownBlock ≠ some b := fun b hb e => by have := (hl.1 b e).2; omega
 have hk : (∀ b, kv.ownBlock = some b → w'.heap[b]? = w1.heap[b]?) ∧ SameOn g w1 w' :=
  ⟨fun b hb => hm.block (hkv.block hb).2 (hn0 b (hkv.block hb).1), hm.same hkv.lt (fun b hb => hn0 b (hg b hb))⟩
 have hlv : ∀ b, lv'.ownBlock = some b → lv.ownBlock = some b ∨ w1.heap.size ≤ b := hm.2; refine ⟨by simpa using hr, fun t ht => ?_, ?_, ?_, ?_⟩
 ·rcases zgg.1 ht with ht | ht
  ·exact (h1.own t ht).same (hs t ht).2 (hs t ht).1
  ·rw [List.mem_singleton.1 ht]
   exact (hkv.same hk.2 hk.1).base (fun b hb => by have := (hkv.block hb).1; omega)
 ·refine List.pairwise_append.2 ⟨h.two, List.pairwise_singleton _ _, fun t ht u hu b hb e => ?_⟩
  rw [List.mem_singleton.1 hu] at e; have := ((hl.2 t ht).1 b hb).2; have := (hkv.block e).1; omega
 ·intro t ht u hu b hb
  rcases zgg.1 ht with ht | ht <;> rcases zgg.1 hu with hu | hu
  ·exact h.far t ht u hu b hb
  ·rw [List.mem_singleton.1 hu]
   intro h9; have := ((hl.2 t ht).1 b hb).2; have := hg b h9; omega
  ·rw [List.mem_singleton.1 ht] at hb
   intro h9; have := (hl.2 u hu).2 b h9; have := (hkv.block hb).1; omega
  ·rw [List.mem_singleton.1 ht] at hb
   rw [List.mem_singleton.1 hu]; intro h9; obtain ⟨_, _, _, _, h4⟩ := hkv; exact h4 b h9 hb
 ·intro t ht
  rcases zgg.1 ht with ht | ht
  ·refine ⟨fun b hb e => ?_, fun b hb e => ?_⟩
   ·rcases hlv b e with h9 | h9
    ·exact (h.nr t ht).1 b hb h9
    ·have := ((hl.2 t ht).1 b hb).2; omega
   ·rcases hlv b e with h9 | h9
    ·exact (h.nr t ht).2 b hb h9
    ·have := (hl.2 t ht).2 b hb; omega
  ·rw [List.mem_singleton.1 ht]
   refine ⟨fun b hb e => ?_, fun b hb e => ?_⟩
   ·rcases hlv b e with h9 | h9
    ·exact hn0 b (hkv.block hb).1 h9
    ·have := (hkv.block hb).2; omega
   ·rcases hlv b e with h9 | h9
    ·exact hn0 b (hg b hb) h9
    ·have := hkv.lt b hb; omega
/-- One level has one more, or is another. -/
theorem Lvs.tell {w w2 : World} {lo q n c : Nat} {v' : Value} {L1 L2 : List Lv} {t : Lv} {fs' : List Fm} {g' : List Nat} (h : Lvs w lo (.slice (some ⟨q, 0, none⟩) n c) (L1 ++ t :: L2)) (hm : Moved w t.v w2 v') (ho : Own w2 lo 36 12 v' (fs'.map Fm.cd) g') (hqz : q < w.heap.size)
  (hg : ∀ b ∈ g', b ∈ t.g ∨ (b ≠ q ∧ ∀ u ∈ L1 ++ t :: L2, u.v.ownBlock ≠ some b)) (hgl : ∀ b ∈ g', b < w.heap.size) :
  Lvs (w2.setCell ⟨q, L1.length, none⟩ v') lo (.slice (some ⟨q, 0, none⟩) n c) (L1 ++ ⟨v', fs', g'⟩ :: L2) := by
 have hl := h.lt; have hz := hm.size
 have en : n = (L1 ++ t :: L2).length := by
  obtain ⟨a, c', h2⟩ := h.form; simp only [Value.slice.injEq] at h2; exact h2.2.1
 have ht0 : t ∈ L1 ++ t :: L2 := by simp
 have h2 := List.pairwise_append.1 h.two; have h3 := List.pairwise_cons.1 h2.2.1
 have hoff : ∀ u ∈ L1 ++ L2, ∀ b, t.v.ownBlock = some b → u.v.ownBlock ≠ some b := fun u hu b hb e => by
  rcases zgg.1 hu with hu | hu
  ·exact h2.2.2 u hu t (by simp) b e hb
  ·exact h3.1 u hu b hb e
 have hsub : ∀ u ∈ L1 ++ L2, u ∈ L1 ++ t :: L2 := fun u hu => by
  rcases zgg.1 hu with hu | hu
  ·exact List.mem_append_left _ hu
  ·exact List.mem_append_right _ (List.mem_cons_of_mem _ hu)
 have hnq : ∀ b, t.v.ownBlock = some b → b ≠ q := fun b hb e => (h.nr t ht0).1 b hb (by rw [e]; rfl); have hq2 : w2.heap[q]? = w.heap[q]? := hm.block hqz (fun e => hnq q e rfl); have hvn : ∀ b, v'.ownBlock = some b → t.v.ownBlock = some b ∨ w.heap.size ≤ b := hm.2
 have hvq : v'.ownBlock ≠ some q := fun e => by
  rcases hvn q e with h9 | h9
  ·exact hnq q h9 rfl
  ·omega
 have hgq : q ∉ g' := fun hx => by
  rcases hg q hx with h9 | h9
  ·exact (h.nr t ht0).2 q h9 rfl
  ·exact h9.1 rfl
 have hrow : w2.ownsRow lo 34 1 (.slice (some ⟨q, 0, none⟩) n c) (L1 ++ t :: L2).length ((L1 ++ t :: L2).map Lv.v) := by
  refine ⟨h.row.1, ?_⟩
  rcases h.row.2 with ⟨hn, _⟩ | ⟨g0, cap, cur, e, hg0, hh, rest⟩
  ·simp at hn
  ·have e' := e
   simp only [Value.slice.injEq, Option.some.injEq, Addr.mk.injEq] at e'; exact .inr ⟨g0, cap, cur, e, hg0, by rw [← e'.1.1] at hh ⊢; exact hq2.trans hh, rest⟩
 rw [← en] at hrow; have hst := (hrow.stored L1.length v').1
 have hu : ∀ u ∈ L1 ++ L2, Own (w2.setCell ⟨q, L1.length, none⟩ v') lo 36 12 u.v (u.fs.map Fm.cd) u.g := fun u hu => by
  have hum := hsub u hu; have hou := h.own u hum; have hl2 := hl.2 u hum; have hs := hm.same hl2.2 (fun b hb e => h.far t ht0 u hum b e hb); refine (hou.same hs (fun b hb => hm.block (hl2.1 b hb).2 (fun e => hoff u hu b e hb))).same (zD (fun b hb (e : b = q) => (h.nr u hum).2 b hb (by rw [e]; rfl))) (fun b hb => Below.heap_setCell _ _ _ _ (fun e : b = q => (h.nr u hum).1 b hb (by rw [e]; rfl)))
 have hmem : ∀ u ∈ L1 ++ (⟨v', fs', g'⟩ : Lv) :: L2, u ∈ L1 ++ L2 ∨ u = ⟨v', fs', g'⟩ := fun u hu => by
  rcases zgg.1 hu with hu | hu
  ·exact .inl (List.mem_append_left _ hu)
  ·rcases zgk.1 hu with hu | hu
   ·exact .inr hu
   ·exact .inl (List.mem_append_right _ hu)
 have hnu : ∀ u ∈ L1 ++ L2, ∀ b, v'.ownBlock = some b → u.v.ownBlock ≠ some b := fun u hu b hb e => by
  rcases hvn b hb with h9 | h9
  ·exact hoff u hu b h9 e
  ·have := ((hl.2 u (hsub u hu)).1 b e).2; omega
 refine ⟨?_, fun u hu' => ?_, ?_, ?_, ?_⟩
 ·have e2 : (L1 ++ (⟨v', fs', g'⟩ : Lv) :: L2).length = n := by rw [en]; simp
  rw [e2]
  have e3 : (List.map Lv.v (L1 ++ t :: L2)).set L1.length v' = List.map Lv.v (L1 ++ (⟨v', fs', g'⟩ : Lv) :: L2) := by simp
  rw [← e3]; exact hst
 ·rcases hmem u hu' with h9 | rfl
  ·exact hu u h9
  ·exact ho.set_apart hgq hvq
 ·refine List.pairwise_append.2 ⟨h2.1, List.pairwise_cons.2 ⟨fun u hu' b hb => hnu u (List.mem_append_right _ hu') b hb, h3.2⟩, fun u hu' x hx b hb e => ?_⟩
  rcases zgk.1 hx with rfl | hx
  ·exact hnu u (List.mem_append_left _ hu') b e hb
  ·exact h2.2.2 u hu' x (by simp [hx]) b hb e
 ·intro u hu' x hx b hb
  rcases hmem u hu' with h9 | rfl <;> rcases hmem x hx with h8 | rfl
  ·exact h.far u (hsub u h9) x (hsub x h8) b hb
  ·intro hbg
   rcases hg b hbg with h7 | h7
   ·exact h.far u (hsub u h9) t ht0 b hb h7
   ·exact h7.2 u (hsub u h9) hb
  ·intro hbg
   rcases hvn b hb with h7 | h7
   ·exact h.far t ht0 x (hsub x h8) b h7 hbg
   ·have := (hl.2 x (hsub x h8)).2 b hbg; omega
  ·intro hbg
   obtain ⟨_, _, _, _, h4⟩ := ho; exact h4 b hbg hb
 ·intro u hu'
  rcases hmem u hu' with h9 | rfl
  ·exact h.nr u (hsub u h9)
  ·refine ⟨fun b hb e => ?_, fun b hb e => ?_⟩
   ·simp only [Value.ownBlock, Option.some.injEq] at e; subst e; exact hvq hb
   ·simp only [Value.ownBlock, Option.some.injEq] at e; subst e; exact hgq hb
/-- append of a level, in a region. -/
theorem ze9 {P : Program} {z : Value} {bytes : Nat} (hT : SlTy P 51 34 z 1 bytes) {w0 w : World} {ops : Array Oper} {o : Oper} {a : Act} {K : Act → World → Prop} {Q : Exit → Act → World → Prop} {E : Prop} (hgd : o.guard = none) (s x : Operand)
  (ho : o.op = .call { callee := .builtin .append, args := #[s, x], argTypes := #[51, 51] })
  {lo : Nat} {lv kv : Value} {L : List Lv} {fs : List Fm} {g : List Nat} (hs : a.eval s = lv) (h : Lvs w0 lo lv L) (hb : Below w0.heap.size w0 w) (ad : Addr) (c : Nat) (hx : a.eval x = .slice (some ad) 1 c) (hc : w.cell? (ad.add 0) = some kv)
  (hkv : Own w w0.heap.size 36 12 kv (fs.map Fm.cd) g) (hg : ∀ b ∈ g, w0.heap.size ≤ b) (hlo : lo ≤ w0.heap.size)
  (hbytes : (L.length + 1) * bytes ≤ 140737488355328) (hlen : L.length + 1 ≤ 140737488355328)
  (hK : ∀ lv' w', Lvs w' lo lv' (L ++ [⟨kv, fs, g⟩]) → Moved w lv w' lv' → K (a.put o.dst lv') w') : if Region.wanted o (yielded ops a.tmps) = true then Oper.wp P o a w K Q else E := by
 have hw : Region.wanted o (yielded ops a.tmps) = true := by simp [Region.wanted, hgd]
 rw [if_pos hw]; have h1 := h.below hb
 have hkf : kv.oneCell' = true := by obtain ⟨a', n', c', rfl⟩ := hkv.form'; rfl
 obtain ⟨v', w', hr, g1, g2, g3⟩ := zco hT w o.type lo lv L.length (L.map Lv.v) h1.row ad 1 c [kv] (by simp) (fun j u hj => by
  match j with
  | 0 => simp at hj; subst hj; exact hc
  | j + 1 => simp at hj) (by simpa using hkf) (by simp [maxLen]; omega) hbytes (by have := hb.size; omega)
 unfold Oper.wp execOp; simp only [ho, resolve, invoke, builtin, Sem.run_bind, Sem.run_pure, Result.andThen_ok, List.map_toArray, List.map_cons, List.map_nil, hs, hx, hr]; exact hK v' w' (h.app hb hkv hg hlo g1 ⟨g2, g3⟩) ⟨g2, g3⟩
def OwnOut (fs : List Fm) (w : World) (e : Ending) (w' : World) : Prop := ∃ (v : Value) (fp : List Nat), e = .returned v ∧ Own w' w.heap.size 36 12 v (fs.map Fm.cd) fp ∧ Fresh w.heap.size w' fp ∧ Below w.heap.size w w'
/-- A stack in block ob: its words, its levels. -/
structure StkW (w : World) (ob lo base : Nat) (s : Sg) (sv lv : Value) (fs : List Nat) (L : List Lv) : Prop where
 c0 : w.cell? ⟨ob, 0, none⟩ = some sv
 c1 : w.cell? ⟨ob, 1, none⟩ = some lv
 fr : ∀ j, w.frozen? ⟨ob, j, none⟩ = false
 sg : RdVs w s.cd [sv] fs
 sl : ∀ b ∈ fs, lo ≤ b
 sb : ∀ b ∈ fs, b < base
 lb : lo ≤ base
 row : Lvs w base lv L
 lg : ∀ t ∈ L, ∀ b ∈ t.g, base ≤ b
 ns : ob ∉ fs
 nf : ∀ t ∈ L, t.v.ownBlock ≠ some ob ∧ ob ∉ t.g
 nr : lv.ownBlock ≠ some ob
theorem StkW.lt {w : World} {ob lo base : Nat} {s : Sg} {sv lv : Value} {fs : List Nat} {L : List Lv} (h : StkW w ob lo base s sv lv fs L) : ob < w.heap.size := World.block_lt_of_cell? w _ h.c0
theorem StkW.below {w w2 : World} {ob lo base : Nat} {s : Sg} {sv lv : Value} {fs : List Nat} {L : List Lv} (h : StkW w ob lo base s sv lv fs L) (hb : Below w.heap.size w w2) : StkW w2 ob lo base s sv lv fs L :=
 ⟨za h.c0 hb, za h.c1 hb, fun j => (zk (hb.block ob h.lt)).trans (h.fr j), h.sg.below hb, h.sl, h.sb, h.lb, h.row.below hb, h.lg, h.ns, h.nf, h.nr⟩
theorem StkW.app {w w4 : World} {ob lo base : Nat} {s : Sg} {sv lv lv' : Value} {fs : List Nat} {L : List Lv} {t : Lv} (h : StkW w ob lo base s sv lv fs L) (hbz : base ≤ w.heap.size) (hrow : Lvs w4 base lv' (L ++ [t])) (hv : ∀ b, t.v.ownBlock = some b → w.heap.size ≤ b) (hg : ∀ b ∈ t.g, w.heap.size ≤ b) (hm : Moved w lv w4 lv') :
  StkW (w4.setCell ⟨ob, 1, none⟩ lv') ob lo base s sv lv' fs (L ++ [t]) := by
 have hlt := h.lt; have hcb := hm.block h.lt h.nr; have hsg := hm.same h.sg.lt (fun b hb e => by have := (h.row.lt.1 b e).1; have := h.sb b hb; omega); have hs2 := hsg.trans (zD (a := ⟨ob, 1, none⟩) (v := lv') (w := w4) (fun b hb (e : b = ob) => h.ns (e ▸ hb)))
 have hnr : lv'.ownBlock ≠ some ob := fun e => by
  rcases hm.2 ob e with h1 | h1
  ·exact h.nr h1
  ·omega
 have hnf : ∀ u ∈ L ++ [t], u.v.ownBlock ≠ some ob ∧ ob ∉ u.g := fun u hu => by
  rcases zgg.1 hu with hu | hu
  ·exact h.nf u hu
  ·rw [List.mem_singleton.1 hu]
   exact ⟨fun e => by have := hv ob e; omega, fun e => by have := hg ob e; omega⟩
 refine ⟨?_, ?_, fun j => ?_, h.sg.same _ hs2, h.sl, h.sb, h.lb, hrow.set hnr hnf, fun u hu => ?_, h.ns, hnf, hnr⟩
 ·rw [zgt _ _ _ _ (by simp)]; exact ze hcb h.c0
 ·exact zgu _ _ _ (ze hcb h.c1)
 ·rw [World.frozen?_setCell]; exact zp hcb (h.fr j)
 ·rcases zgg.1 hu with hu | hu
  ·exact h.lg u hu
  ·rw [List.mem_singleton.1 hu]; exact fun b hb => by have := hg b hb; omega
/-- A stack that comes back, its levels' rows the call's own. -/
def StkTwo (k : Stk) (w : World) (e : Ending) (w' : World) : Prop := ∃ (sv lv : Value) (fs : List Nat) (base : Nat) (L : List Lv), e = .returned (.agg #[sv, lv]) ∧ L.map Lv.fs = k.E ∧ RdVs w' k.sig.cd [sv] fs ∧ (∀ b ∈ fs, w.heap.size ≤ b ∧ b < base) ∧ w.heap.size ≤ base ∧ base ≤ w'.heap.size ∧
 Lvs w' base lv L ∧ (∀ t ∈ L, ∀ b ∈ t.g, base ≤ b) ∧ Below w.heap.size w w'
theorem StkW.box {w' : World} {k : Stk} {sv lv : Value} {fs : List Nat} {L : List Lv} {base lo : Nat} (hsg : RdVs w' k.sig.cd [sv] fs) (hsf : ∀ b ∈ fs, lo ≤ b ∧ b < base) (hlb : lo ≤ base) (hrow : Lvs w' base lv L) (hlg : ∀ t ∈ L, ∀ b ∈ t.g, base ≤ b) :
  StkW (w'.alloc (.cells #[sv, lv] 53)) w'.heap.size lo base k.sig sv lv fs L := by
 have hc := zt w' #[sv, lv] 53; have hb := zb w' (.cells #[sv, lv] 53); have hl := hrow.lt; exact ⟨hc 0, hc 1, fun j => zR _ _ _ _, hsg.below hb, fun b hb => (hsf b hb).1, fun b hb => (hsf b hb).2, hlb, hrow.below hb, hlg, fun h => by have := hsg.lt _ _ h; omega, fun t ht => ⟨fun e => by have := ((hl.2 t ht).1 _ e).2; omega, fun e => by have := (hl.2 t ht).2 _ e; omega⟩, fun h => by have := (hl.1 _ h).2; omega⟩
theorem StkW.out {w : World} {ob lo base : Nat} {s : Sg} {sv lv : Value} {fs : List Nat} {L : List Lv} (h : StkW w ob lo base s sv lv fs L) : ∃ fq, RdVs w (Stk.mk s (L.map Lv.fs)).cd [sv, lv] (fs ++ fq) ∧ ∀ b ∈ fs ++ fq, lo ≤ b := by
 obtain ⟨fq, h1, h2⟩ := h.row.rd; refine ⟨fq, ?_, fun b hb => ?_⟩
 ·unfold Stk.cd
  exact h.sg.app (RdVs.single h1)
 ·have hl := h.row.lt
  have := h.lb
  rcases zgg.1 hb with hb | hb
  ·exact h.sl b hb
  ·rcases h2 b hb with h3 | ⟨t, ht, h3 | h3⟩
   ·have := (hl.1 b h3).1; omega
   ·have := ((hl.2 t ht).1 b h3).1; omega
   ·have := h.lg t ht b h3; omega
theorem zep {L : List Lv} {ls : List (List Fm)} {n : Nat} (h : L.map Lv.fs = ls.take n) (hn : n < ls.length) {t : Lv} (ht : t.fs = ls[n]) : (L ++ [t]).map Lv.fs = ls.take (n + 1) := by
 rw [zgj, h, zgf hn]; simp [ht]
theorem lvs_len {L : List Lv} {ls : List (List Fm)} {n : Nat} (h : L.map Lv.fs = ls.take n) : L.length ≤ ls.length := by
 have := congrArg List.length h; rw [zgl, List.length_take] at this; omega
theorem zdN (w : World) (v : Value) (T : Nat) : (w.alloc (.cells #[v] T)).cell? ((⟨w.heap.size, 0, none⟩ : Addr).add 0) = some v := zq w [v] T 0 v rfl
theorem zfN (xs : List Fm) (v : Value) (fp0 : List Nat) (w : World) (hbig : xs.length + wtR (xs.map Fm.cd) ≤ 1048576) (hv : Rd w (.sl (xs.map Fm.cd)) v fp0) :
  Calls Tryz.prog 59 #[v] w (OwnOut xs w) := by
 obtain ⟨a, cap, rfl, hc1, hc2⟩ := zg hv; go_enter Tryz.func59, Tryz.ntmps59; go_wp2_with fail
 go_loopw [3, 8] (fun ov i wr => ∃ (k : Nat) (fp : List Nat), k ≤ xs.length ∧ i = .int .i64 k ∧ Own wr w.heap.size 36 12 ov ((xs.take k).map Fm.cd) fp ∧ Fresh w.heap.size wr fp ∧ Below w.heap.size w wr) (fun _ i _ => xs.length - (intOf i).toNat)
 case atStart => first | exact ⟨0, [], zgx _, rfl, Own.nil _ _ _ _, Fresh.nil _ _, zgz _ _⟩ | exact ⟨0, [], zgx _, rfl, by exact Own.empty _ _ _ _ (zgo _), Fresh.nil _ _, (zgz _ _).alloc (zgo _) _⟩
 case round =>
  obtain ⟨k, fp, hkl, rfl, hown, hfr, hb⟩ := hrel; have hz := hb.size
  by_cases hlt : k < xs.length
  ·obtain ⟨b, off, rfl, hbs, _⟩ := zl hv (by omega)
   obtain ⟨a3, c3, f3, a5, c5, f5, a6, c6, f6, a7, c7, f7, a11, c11, f11, d0, d1, d2, d3, d4, d5, d6, d7, d8, d9, d10, d11, m0, m1, m2, m3, m4, m5, m6, m7, m8, m9, _⟩ := Fm.at (hv.below hb) hlt
   have hbz : b < wr.heap.size := by omega
   have hle := zu Fm.cd xs (k + 1); rw [zC Fm.cd xs k hlt] at hle; go_wp2_with fail; refine (formOwn_x xs[k] _ _ _ (by omega) (by exact (Fm.close m0 m1 m2 m3 m4 m5 m6 m7 m8 m9).below ((zgz _ _).alloc (zgo _) _))).mono ?_; rintro e w2 ⟨kv, fk, rfl, hrk, hfk, hb2⟩; obtain ⟨b3, e3, g3, b5, e5, g5, b6, e6, g6, b7, e7, g7, b11, e11, g11, rfl, -, n0, n1, n2, n3, n4, n5, n6, n7, n8, n9⟩ := Fm.open hrk; have hbw : Below wr.heap.size wr w2 := ((zgz _ _).alloc (zgo _) _).trans (hb2.mono (by simp)); have hz2 := hbw.size; have hown2 := (hown.below (hbw.alloc hz2 (.cells (yTa xs[k] b3 e3 b5 e5 b6 e6 b7 e7 b11 e11) 36))); have hrk2 := hrk.below (zb w2 (.cells (yTa xs[k] b3 e3 b5 e5 b6 e6 b7 e7 b11 e11) 36))
   have hl : ((xs.take k).map Fm.cd).length ≤ xs.length := by simp; omega
   go_wp2_with (at_builtin; refine zz zM rfl _ _ rfl w.heap.size _ _ _ rfl hown2 ⟨w2.heap.size, 0, none⟩ 1 1 [xs[k].cd] (yTl xs[k] b3 e3 b5 e5 b6 e6 b7 e7 b11 e11) fk rfl rfl ?rd ?k ?cells ?na ?bytes ?len ?base ?next)
   case rd => simpa using hrk2
   case k => simp [Fm.cd_len]
   case cells => exact zq _ _ _
   case na => exact hown.away (by simp) hfk
   case bytes => omega
   case len => omega
   case base => simp; omega
   case next =>
    intro v' w4 hown4 hg hv' hs4; go_wp2_with fail; go_roundw
    case rel =>
     refine ⟨k + 1, fp ++ fk, by omega, by go_num, ?_, ?_, ?_⟩
     ·rw [zgf hlt, zgj]; simpa using hown4
     ·exact ((Fresh.app (hfr.below hbw) hfr.lt hz (hfk.mono (by simp))).below (zb _ _)).same hs4
     ·exact zo ((hb.trans (hbw.mono hz)).alloc (by omega) _) hg (by simp; omega) (fun k hk => (hown.block hk).1)
    case measure => simp [intOf]; omega
  ·have he : xs.take k = xs := zgq (by omega)
   rw [he] at hown; go_wp2_with fail; go_ret; exact ⟨_, fp, rfl, hown, hfr, hb⟩
theorem zfO (xs : List Fm) (v : Value) (fp0 : List Nat) (w : World) (hbig : xs.length + wtR (xs.map Fm.cd) ≤ 1048576) (hv : Rd w (.sl (xs.map Fm.cd)) v fp0) :
  Calls Tryz.prog 61 #[v] w (OwnOut xs w) := by
 obtain ⟨a, cap, rfl, hc1, hc2⟩ := zg hv; go_enter Tryz.func61, Tryz.ntmps61; go_wp2_with fail
 go_loopw [3, 4] (fun ov i wr => ∃ (k : Nat) (fp : List Nat), k ≤ xs.length ∧ i = .int .i64 k ∧ Own wr w.heap.size 36 12 ov ((xs.take k).map Fm.cd) fp ∧ Fresh w.heap.size wr fp ∧ Below w.heap.size w wr) (fun _ i _ => xs.length - (intOf i).toNat)
 case atStart => first | exact ⟨0, [], zgx _, rfl, Own.nil _ _ _ _, Fresh.nil _ _, zgz _ _⟩ | exact ⟨0, [], zgx _, rfl, by exact Own.empty _ _ _ _ (zgo _), Fresh.nil _ _, (zgz _ _).alloc (zgo _) _⟩
 case round =>
  obtain ⟨k, fp, hkl, rfl, hown, hfr, hb⟩ := hrel; have hz := hb.size
  by_cases hlt : k < xs.length
  ·obtain ⟨b, off, rfl, hbs, _⟩ := zl hv (by omega)
   obtain ⟨a3, c3, f3, a5, c5, f5, a6, c6, f6, a7, c7, f7, a11, c11, f11, d0, d1, d2, d3, d4, d5, d6, d7, d8, d9, d10, d11, m0, m1, m2, m3, m4, m5, m6, m7, m8, m9, _⟩ := Fm.at (hv.below hb) hlt
   have hbz : b < wr.heap.size := by omega
   have hle := zu Fm.cd xs (k + 1); rw [zC Fm.cd xs k hlt] at hle; go_wp2_with fail; refine (zbP xs[k] _ _ _ (by omega) (by exact Fm.close m0 m1 m2 m3 m4 m5 m6 m7 m8 m9)).mono ?_; rintro e w2 ⟨kv, fk, rfl, hrk, hfk, hb2⟩; obtain ⟨b3, e3, g3, b5, e5, g5, b6, e6, g6, b7, e7, g7, b11, e11, g11, rfl, -, n0, n1, n2, n3, n4, n5, n6, n7, n8, n9⟩ := Fm.open hrk; have hbw : Below wr.heap.size wr w2 := hb2; have hz2 := hbw.size; have hown2 := (hown.below (hbw.alloc hz2 (.cells (yTa xs[k] b3 e3 b5 e5 b6 e6 b7 e7 b11 e11) 36))); have hrk2 := hrk.below (zb w2 (.cells (yTa xs[k] b3 e3 b5 e5 b6 e6 b7 e7 b11 e11) 36))
   have hl : ((xs.take k).map Fm.cd).length ≤ xs.length := by simp; omega
   go_wp2_with (at_builtin; refine zz zM rfl _ _ rfl w.heap.size _ _ _ rfl hown2 ⟨w2.heap.size, 0, none⟩ 1 1 [xs[k].cd] (yTl xs[k] b3 e3 b5 e5 b6 e6 b7 e7 b11 e11) fk rfl rfl ?rd ?k ?cells ?na ?bytes ?len ?base ?next)
   case rd => simpa using hrk2
   case k => simp [Fm.cd_len]
   case cells => exact zq _ _ _
   case na => exact hown.away (zgo _) hfk
   case bytes => omega
   case len => omega
   case base => simp; omega
   case next =>
    intro v' w4 hown4 hg hv' hs4; go_wp2_with fail; go_roundw
    case rel =>
     refine ⟨k + 1, fp ++ fk, by omega, by go_num, ?_, ?_, ?_⟩
     ·rw [zgf hlt, zgj]; simpa using hown4
     ·exact ((Fresh.app (hfr.below hbw) hfr.lt hz hfk).below (zb _ _)).same hs4
     ·exact zo ((hb.trans (hbw.mono hz)).alloc (by omega) _) hg (by simp; omega) (fun k hk => (hown.block hk).1)
    case measure => simp [intOf]; omega
  ·have he : xs.take k = xs := zgq (by omega)
   rw [he] at hown; go_wp2_with fail; go_ret; exact ⟨_, fp, rfl, hown, hfr, hb⟩
theorem zb4 (k : Stk) (vs : List Value) (f : List Nat) (w : World) (hbig : wtV k.cd ≤ 1048576) (hv : RdVs w k.cd vs f) :
  Calls Tryz.prog 64 #[.agg vs.toArray] w (StkTwo k w) := by
 obtain ⟨a0, c0, f0, a1, c1, f1, rfl, _, m0, m1⟩ := Stk.open hv
 have hw : wtV k.cd = wtV k.sig.cd + (k.E.length + wtR (k.E.map zG)) := by unfold Stk.cd; simp only [zI, zaS, zav, zb0, zaj]; try omega
 rw [hw] at hbig; clear hw; go_enter Tryz.func64, Tryz.ntmps64; go_wp2_with fail; refine (zfM k.sig _ _ _ (by omega) (by exact (Sg.close m0).below (((zgz _ _).alloc (zgo _) _).alloc (by simp) _))).mono ?_; rintro e w1 ⟨us, fs, rfl, hr, hfr, hb1⟩; obtain ⟨sa, sc, sf, rfl, _, n0⟩ := Sg.open hr; have hbb := zm (n := w.heap.size + 1 + 1) hb1 (by simp); obtain ⟨hx, hy, hz, hB⟩ := box2 (w := w) (wr := w1) (cs := #[.slice a0 k.sig.Y.length c0, .slice a1 k.E.length c1]) (ds := #[.slice none 0 0, .slice none 0 0]) (T := 53) (U := 53) hbb; have hf2 := fun j => (zJ hbb j).2; have hfr := hfr.mono (lo' := w.heap.size + 1 + 1) (by simp); clear hb1 hbb; have X1 := hx 1; simp only [zgd, zgb, zgc] at X1; have hlk := hfr.lt
 have hwz : w.heap.size < w1.heap.size := by omega
 go_wp2_with fail; have hU : Below w1.heap.size w1 (w1.alloc (.cells #[.slice sa k.sig.Y.length sc, .slice none 0 0] 53)) := zb _ _; have hc := zt w1 #[.slice sa k.sig.Y.length sc, .slice none 0 0] 53; have hf := zR w1 #[.slice sa k.sig.Y.length sc, .slice none 0 0] 53
 skip
 have st0 : StkW (w1.alloc (.cells #[.slice sa k.sig.Y.length sc, .slice none 0 0] 53)) w1.heap.size (w.heap.size + 1 + 1) w1.heap.size k.sig (.slice sa k.sig.Y.length sc) (.slice none 0 0) fs [] :=
  ⟨hc 0, hc 1, hf, hr.below hU, fun b hb => (hfr.2 b hb).1, hlk, hz, Lvs.nil _ _, by simp, fun h => by have := hlk _ h; omega, by simp, by simp [Value.ownBlock]⟩
 clear hc hf
 go_loopw [13] (fun i wr => ∃ (n : Nat) (lv : Value) (L : List Lv), n ≤ k.E.length ∧ i = .int .i64 n ∧ L.map Lv.fs = k.E.take n ∧ StkW wr w1.heap.size (w.heap.size + 1 + 1) w1.heap.size k.sig (.slice sa k.sig.Y.length sc) lv fs L ∧ Below w1.heap.size w1 wr) (fun i _ => k.E.length - (intOf i).toNat)
 case atStart => exact ⟨0, _, [], zgx _, rfl, rfl, st0, hU⟩
 case round =>
  clear st0 hU; obtain ⟨n, lv, L, hnl, rfl, hL0, st, hbw⟩ := hrel; have HL := zgn hL0; clear hL0; have x1 := za X1 hbw; have y1 := st.c1; have g1 := st.fr 1; have hob := st.lt; have hz1 := hbw.size
  by_cases hlt : n < k.E.length
  ·have m1w := m1.below (hB.trans (hbw.mono (by omega)))
   obtain ⟨bk, off, rfl, hbs, _⟩ := zl m1w (by omega); obtain ⟨la, lc, lf, d0, hkd, _⟩ := za4 m1w hlt; have hle := zu zG k.E (n + 1); rw [zC zG k.E n hlt, zG, zaj] at hle; have hown := st.row; have hll := lvs_len HL.out
   have hlk5 : k.E.length ≤ 1048576 := by omega
   clear m1w; go_wp2_with fail; have tok1 : True := trivial
   go_region_law (first
    | (have _t := @hkv2; go_loud (refine ze9 za2 rfl _ _ rfl rfl (by exact hown) (by exact hbx) ⟨w2.heap.size, 0, none⟩ 1 rfl (by exact zdN _ _ _) (by exact hkv2) (by exact hg3) (by omega) (by omega) (by omega) ?_); intro lv4 w4 hrow4 hm9; obtain ⟨a4', n4', c4', rfl⟩ := hrow4.form'; have hm4 := Moved.after hbx hm9; have hcb4 := hm4.block st.lt st.nr; have y1' := ze hcb4 y1; have g1' := zp hcb4 g1)
    | (have _t := tok1; clear _t tok1; go_simp; go_at_call 59; refine (zfN k.E[n] _ _ _ (by omega) (by exact hkd.below (zj _))).mono ?_; rintro e w2 ⟨kv3, fp3, rfl, hr3, hf3, hb3⟩; obtain ⟨p3, n3, q3, rfl⟩ := hr3.form'; have hb3 := zc hb3; have hz2 := hb3.size; have hlz : w1.heap.size < w2.heap.size := (by omega); have hbk := hb3.block (w1.heap.size) (by omega); have y1w := ze hbk y1; have g1w := zp hbk g1; clear hbk; have hbx := hb3.alloc hb3.size (.cells #[.slice p3 n3 q3] 34); have hkv2 := hr3.below (zb w2 (.cells #[.slice p3 n3 q3] 34)); have hg3 : ∀ b ∈ fp3, wr.heap.size ≤ b := fun b hb => (hf3.2 b hb).1))
   all_goals
    have st4 := st.app hz1 hrow4 (fun b hb => (hkv2.block hb).1) hg3 hm4; have hbw4 : Below w1.heap.size w1 (w4.setCell ⟨w1.heap.size, 1, none⟩ (.slice a4' n4' c4')) := (hbw.trans (hm4.toBelow hz1 (fun q hq => (hown.lt.1 q hq).1))).setCell (by simp) _; go_wp2_with fail; go_roundw
    case rel => exact ⟨n + 1, _, _, by omega, by go_num, zep HL.out hlt rfl, st4, hbw4⟩
    case measure => simp [intOf]; omega
  ·have he : k.E.take n = k.E := zgq (by omega)
   have hLL := HL.out; rw [he] at hLL; replace HL := zgn hLL; clear he hLL; obtain ⟨ln, hln⟩ : ∃ q, q = L.length := ⟨_, rfl⟩; obtain ⟨la, lc, hlv⟩ := st.row.form; rw [← hln] at hlv; clear hln; subst hlv; have hyw : ∀ j, wr.cell? ⟨w.heap.size + 1, j, none⟩ = (#[.slice none 0 0, .slice none 0 0] : Array Value)[j]? := zh hy (by omega) hbw; have hfw : ∀ j, wr.frozen? ⟨w.heap.size + 1, j, none⟩ = false := zK hf2 (by omega) hbw; have y0' := hyw 0; have y1' := hyw 1; have g0' := hfw 0; have g1' := hfw 1; simp only [zgd, zgb, zgc] at y0' y1'; have s0 := st.c0; have hres := zw (b := w.heap.size + 1) [(0, .slice sa k.sig.Y.length sc), (1, .slice la ln lc)] hyw (by simp); have r0 := hres 0; have r1 := hres 1; simp only [zi, zag, zfZ, zga, zgd, zgb, zgc] at r0 r1; have hl := st.row.lt
   have hn1 : w.heap.size + 1 ∉ fs := fun h => by have := st.sl _ h; omega
   have hn2 : ∀ t ∈ L, t.v.ownBlock ≠ some (w.heap.size + 1) ∧ w.heap.size + 1 ∉ t.g := fun t ht => ⟨fun e => by have := ((hl.2 t ht).1 _ e).1; omega, fun e => by have := st.lg t ht _ e; omega⟩
   have hn3 : (Value.slice la ln lc).ownBlock ≠ some (w.heap.size + 1) := fun h => by have := (hl.1 _ h).1; omega
   have hs1 := zP (w := wr) (i := 0) (j := 1) (u := .slice sa k.sig.Y.length sc) (v := .slice la ln lc) (fun b hb (e : b = w.heap.size + 1) => hn1 (e ▸ hb)); have hBe := hB.trans (hbw.mono (by omega)); clear hres hyw hfw; go_wp2_with fail; refine bodyPost_ret (v := .agg #[.slice sa k.sig.Y.length sc, .slice la ln lc]) (by simp [results, Tryz.results64, go_sem, r0, r1]) rfl ?_; exact ⟨_, _, fs, w1.heap.size, L, rfl, HL.out, st.sg.same _ hs1, fun b hb => ⟨by have := st.sl b hb; omega, st.sb b hb⟩, hB.size, by rw [World.size_setCell, World.size_setCell]; exact hbw.size, (st.row.set hn3 hn2).set hn3 hn2, st.lg, (hBe.setCell (by simp) _).setCell (by simp) _⟩
theorem zbE (k : Stk) (vs : List Value) (f : List Nat) (w : World) (hbig : wtV k.cd ≤ 1048576) (hv : RdVs w k.cd vs f) :
  Calls Tryz.prog 65 #[.agg vs.toArray] w (StkTwo k w) := by
 obtain ⟨a0, c0, f0, a1, c1, f1, rfl, _, m0, m1⟩ := Stk.open hv
 have hw : wtV k.cd = wtV k.sig.cd + (k.E.length + wtR (k.E.map zG)) := by unfold Stk.cd; simp only [zI, zaS, zav, zb0, zaj]; try omega
 rw [hw] at hbig; clear hw; go_enter Tryz.func65, Tryz.ntmps65; go_wp2_with fail; refine (zb3 k.sig _ _ _ (by omega) (by exact (Sg.close m0).below (((zgz _ _).alloc (zgo _) _).alloc (by simp) _))).mono ?_; rintro e w1 ⟨us, fs, rfl, hr, hfr, hb1⟩; obtain ⟨sa, sc, sf, rfl, _, n0⟩ := Sg.open hr; have hbb := zm (n := w.heap.size + 1 + 1) hb1 (by simp); obtain ⟨hx, hy, hz, hB⟩ := box2 (w := w) (wr := w1) (cs := #[.slice a0 k.sig.Y.length c0, .slice a1 k.E.length c1]) (ds := #[.slice none 0 0, .slice none 0 0]) (T := 53) (U := 53) hbb; have hf2 := fun j => (zJ hbb j).2; have hfr := hfr.mono (lo' := w.heap.size + 1 + 1) (by simp); clear hb1 hbb; have X1 := hx 1; simp only [zgd, zgb, zgc] at X1; have hlk := hfr.lt
 have hwz : w.heap.size < w1.heap.size := by omega
 go_wp2_with fail; have hU : Below w1.heap.size w1 ((w1.alloc (.cells #[] 34)).alloc (.cells #[.slice sa k.sig.Y.length sc, .slice (some ⟨w1.heap.size, 0, none⟩) 0 0] 53)) := (zb _ _).alloc (by simp) _; have hc := zt (w1.alloc (.cells #[] 34)) #[.slice sa k.sig.Y.length sc, .slice (some ⟨w1.heap.size, 0, none⟩) 0 0] 53; have hf := zR (w1.alloc (.cells #[] 34)) #[.slice sa k.sig.Y.length sc, .slice (some ⟨w1.heap.size, 0, none⟩) 0 0] 53; simp only [zgs] at hc hf
 have st0 : StkW ((w1.alloc (.cells #[] 34)).alloc (.cells #[.slice sa k.sig.Y.length sc, .slice (some ⟨w1.heap.size, 0, none⟩) 0 0] 53)) (w1.heap.size + 1) (w.heap.size + 1 + 1) w1.heap.size k.sig (.slice sa k.sig.Y.length sc) (.slice (some ⟨w1.heap.size, 0, none⟩) 0 0) fs [] :=
  ⟨hc 0, hc 1, hf, hr.below hU, fun b hb => (hfr.2 b hb).1, hlk, hz, (Lvs.empty w1 w1.heap.size (zgo _)).below (zb _ _), by simp, fun h => by have := hlk _ h; omega, by simp, by simp [Value.ownBlock]⟩
 clear hc hf
 go_loopw [4] (fun i wr => ∃ (n : Nat) (lv : Value) (L : List Lv), n ≤ k.E.length ∧ i = .int .i64 n ∧ L.map Lv.fs = k.E.take n ∧ StkW wr (w1.heap.size + 1) (w.heap.size + 1 + 1) w1.heap.size k.sig (.slice sa k.sig.Y.length sc) lv fs L ∧ Below w1.heap.size w1 wr) (fun i _ => k.E.length - (intOf i).toNat)
 case atStart => exact ⟨0, _, [], zgx _, rfl, rfl, st0, hU⟩
 case round =>
  clear st0 hU; obtain ⟨n, lv, L, hnl, rfl, hL0, st, hbw⟩ := hrel; have HL := zgn hL0; clear hL0; have x1 := za X1 hbw; have y1 := st.c1; have g1 := st.fr 1; have hob := st.lt; have hz1 := hbw.size
  by_cases hlt : n < k.E.length
  ·have m1w := m1.below (hB.trans (hbw.mono (by omega)))
   obtain ⟨bk, off, rfl, hbs, _⟩ := zl m1w (by omega); obtain ⟨la, lc, lf, d0, hkd, _⟩ := za4 m1w hlt; have hle := zu zG k.E (n + 1); rw [zC zG k.E n hlt, zG, zaj] at hle; have hown := st.row; have hll := lvs_len HL.out
   have hlk5 : k.E.length ≤ 1048576 := by omega
   clear m1w; go_wp2_with fail; have tok1 : True := trivial
   go_region_law (first
    | (have _t := @hkv2; go_loud (refine ze9 za2 rfl _ _ rfl rfl (by exact hown) (by exact hbx) ⟨w2.heap.size, 0, none⟩ 1 rfl (by exact zdN _ _ _) (by exact hkv2) (by exact hg3) (by omega) (by omega) (by omega) ?_); intro lv4 w4 hrow4 hm9; obtain ⟨a4', n4', c4', rfl⟩ := hrow4.form'; have hm4 := Moved.after hbx hm9; have hcb4 := hm4.block st.lt st.nr; have y1' := ze hcb4 y1; have g1' := zp hcb4 g1)
    | (have _t := tok1; clear _t tok1; go_simp; go_at_call 61; refine (zfO k.E[n] _ _ _ (by omega) (by exact hkd.below (zj _))).mono ?_; rintro e w2 ⟨kv3, fp3, rfl, hr3, hf3, hb3⟩; obtain ⟨p3, n3, q3, rfl⟩ := hr3.form'; have hb3 := zc hb3; have hz2 := hb3.size; have hlz : w1.heap.size + 1 < w2.heap.size := (by omega); have hbk := hb3.block (w1.heap.size + 1) (by omega); have y1w := ze hbk y1; have g1w := zp hbk g1; clear hbk; have hbx := hb3.alloc hb3.size (.cells #[.slice p3 n3 q3] 34); have hkv2 := hr3.below (zb w2 (.cells #[.slice p3 n3 q3] 34)); have hg3 : ∀ b ∈ fp3, wr.heap.size ≤ b := fun b hb => (hf3.2 b hb).1))
   all_goals
    have st4 := st.app hz1 hrow4 (fun b hb => (hkv2.block hb).1) hg3 hm4; have hbw4 : Below w1.heap.size w1 (w4.setCell ⟨w1.heap.size + 1, 1, none⟩ (.slice a4' n4' c4')) := (hbw.trans (hm4.toBelow hz1 (fun q hq => (hown.lt.1 q hq).1))).setCell (by simp) _; go_wp2_with fail; go_roundw
    case rel => exact ⟨n + 1, _, _, by omega, by go_num, zep HL.out hlt rfl, st4, hbw4⟩
    case measure => simp [intOf]; omega
  ·have he : k.E.take n = k.E := zgq (by omega)
   have hLL := HL.out; rw [he] at hLL; replace HL := zgn hLL; clear he hLL; obtain ⟨ln, hln⟩ : ∃ q, q = L.length := ⟨_, rfl⟩; obtain ⟨la, lc, hlv⟩ := st.row.form; rw [← hln] at hlv; clear hln; subst hlv; have hyw : ∀ j, wr.cell? ⟨w.heap.size + 1, j, none⟩ = (#[.slice none 0 0, .slice none 0 0] : Array Value)[j]? := zh hy (by omega) hbw; have hfw : ∀ j, wr.frozen? ⟨w.heap.size + 1, j, none⟩ = false := zK hf2 (by omega) hbw; have y0' := hyw 0; have y1' := hyw 1; have g0' := hfw 0; have g1' := hfw 1; simp only [zgd, zgb, zgc] at y0' y1'; have s0 := st.c0; have hres := zw (b := w.heap.size + 1) [(0, .slice sa k.sig.Y.length sc), (1, .slice la ln lc)] hyw (by simp); have r0 := hres 0; have r1 := hres 1; simp only [zi, zag, zfZ, zga, zgd, zgb, zgc] at r0 r1; have hl := st.row.lt
   have hn1 : w.heap.size + 1 ∉ fs := fun h => by have := st.sl _ h; omega
   have hn2 : ∀ t ∈ L, t.v.ownBlock ≠ some (w.heap.size + 1) ∧ w.heap.size + 1 ∉ t.g := fun t ht => ⟨fun e => by have := ((hl.2 t ht).1 _ e).1; omega, fun e => by have := st.lg t ht _ e; omega⟩
   have hn3 : (Value.slice la ln lc).ownBlock ≠ some (w.heap.size + 1) := fun h => by have := (hl.1 _ h).1; omega
   have hs1 := zP (w := wr) (i := 0) (j := 1) (u := .slice sa k.sig.Y.length sc) (v := .slice la ln lc) (fun b hb (e : b = w.heap.size + 1) => hn1 (e ▸ hb)); have hBe := hB.trans (hbw.mono (by omega)); clear hres hyw hfw; go_wp2_with fail; refine bodyPost_ret (v := .agg #[.slice sa k.sig.Y.length sc, .slice la ln lc]) (by simp [results, Tryz.results65, go_sem, r0, r1]) rfl ?_; exact ⟨_, _, fs, w1.heap.size, L, rfl, HL.out, st.sg.same _ hs1, fun b hb => ⟨by have := st.sl b hb; omega, st.sb b hb⟩, hB.size, by rw [World.size_setCell, World.size_setCell]; exact hbw.size, (st.row.set hn3 hn2).set hn3 hn2, st.lg, (hBe.setCell (by simp) _).setCell (by simp) _⟩
theorem RdRows.take8 {w : World} {b : Nat} : ∀ {es : List (List CD)} {off : Nat} {fp : List Nat}, RdRows w b off es fp → ∀ i, ∃ fq, RdRows w b off (es.take i) fq ∧ ∀ x ∈ fq, x ∈ fp
 | [], off, fp, h, i => ⟨fp, by simpa using h, fun x hx => hx⟩
 | e :: es, off, fp, h, 0 => ⟨[], by simp [RdRows], by simp⟩
 | e :: es, off, fp, h, i + 1 => by
  simp only [RdRows] at h; obtain ⟨vs, f1, f2, rfl, hc, hv, hr⟩ := h; obtain ⟨fq, h1, h2⟩ := hr.take8 i; refine ⟨f1 ++ fq, by rw [List.take_succ_cons]; simp only [RdRows]; exact ⟨vs, f1, fq, rfl, hc, hv, h1⟩, fun x hx => ?_⟩
  rcases zgg.1 hx with hx | hx
  ·exact List.mem_append_left _ hx
  ·exact List.mem_append_right _ (h2 x hx)
/-- What is sliced off at the end. -/
theorem Rd.take8 {w : World} {es : List (List CD)} {a : Option Addr} {n c : Nat} {fp : List Nat} (h : Rd w (.sl es) (.slice a n c) fp) {i : Nat} (hi : i ≤ es.length) : ∃ fq, Rd w (.sl (es.take i)) (.slice a i c) fq ∧ ∀ x ∈ fq, x ∈ fp := by
 simp only [Rd] at h ⊢; obtain ⟨a', c', e, h2, h3, h4⟩ := h; simp only [Value.slice.injEq] at e; obtain ⟨rfl, rfl, rfl⟩ := e
 have hl : (es.take i).length = i := by rw [List.length_take]; omega
 by_cases h0 : i = 0
 ·subst h0
  exact ⟨[], ⟨a, c, by simp, by simp, h3, .inl ⟨by simp, rfl⟩⟩, by simp⟩
 ·rcases h4 with ⟨rfl, _⟩ | ⟨hne, b, off, f, rfl, hb, rfl, hr⟩
  ·simp at hi; omega
  ·obtain ⟨fq, h5, h6⟩ := hr.take8 i
   refine ⟨b :: fq, ⟨_, c, by rw [hl], by rw [hl]; omega, h3, .inr ⟨?_, b, off, fq, rfl, hb, rfl, h5⟩⟩, fun x hx => ?_⟩
   ·intro e; rw [e] at hl; simp at hl; omega
   ·rcases zgk.1 hx with rfl | hx
    ·simp
    ·exact List.mem_cons_of_mem _ (h6 x hx)
def Stk.pop (k : Stk) : Stk × Bool := if k.okK = true then (if k.E.length < 2 then (k, false) else (⟨k.sig, k.E.take (k.E.length - 1)⟩, true)) else (⟨⟨[]⟩, []⟩, false)
theorem Stk.pop_no {k : Stk} (h : k.okK = false) : k.pop = (⟨⟨[]⟩, []⟩, false) := by unfold Stk.pop; rw [h]; rfl
theorem Stk.pop_one {k : Stk} (h : k.okK = true) (h4 : k.E.length < 2) : k.pop = (k, false) := by unfold Stk.pop; rw [if_pos h, if_pos h4]
theorem Stk.pop_yes {k : Stk} (h : k.okK = true) (h4 : ¬ k.E.length < 2) : k.pop = (⟨k.sig, k.E.take (k.E.length - 1)⟩, true) := by unfold Stk.pop; rw [if_pos h, if_neg h4]
/-- .. as it comes back. -/
def zeR (r : Stk × Bool) (w : World) (e : Ending) (w' : World) : Prop := ∃ (us : List Value) (fs : List Nat), e = .returned (.tuple #[.agg us.toArray, .bool r.2]) ∧ RdVs w' r.1.cd us fs ∧ (∀ b ∈ fs, w.heap.size ≤ b) ∧ Below w.heap.size w w'
theorem zdO (k : Stk) (vs : List Value) (f : List Nat) (w : World) (hbig : wtV k.cd ≤ 1048576) (hv : RdVs w k.cd vs f) :
  Calls Tryz.prog 30 #[.agg vs.toArray] w (zeR k.pop w) := by
 obtain ⟨a0, c0, f0, a1, c1, f1, rfl, _, m0, m1⟩ := Stk.open hv; go_enter Tryz.func30, Tryz.ntmps30; go_wp2_with fail; refine (zaO k _ _ _ hbig (by exact hv.below (((zgz _ _).alloc (zgo _) _).alloc (by simp) _))).mono ?_; rintro e w1 ⟨rfl, hb1⟩; have hbb := zm (n := w.heap.size + 1 + 1) hb1 (by simp); obtain ⟨hx, hy, hz, hB⟩ := box2 (w := w) (wr := w1) (cs := #[.slice a0 k.sig.Y.length c0, .slice a1 k.E.length c1]) (ds := #[.slice none 0 0, .slice none 0 0]) (T := 53) (U := 53) hbb; have hf2 := fun j => (zJ hbb j).2; clear hb1 hbb; have X0 := hx 0; have X1 := hx 1; simp only [zgd, zgb, zgc] at X0 X1
 cases hok : k.okK
 ·have HM := zgn (Stk.pop_no hok)
  clear hok; have y0 := hy 0; have y1 := hy 1; have g0 := hf2 0; have g1 := hf2 1; simp only [zgd, zgb, zgc] at y0 y1; have hres := zw (b := w.heap.size + 1) [(0, .slice none 0 0), (1, .slice none 0 0)] hy (by simp); have r0 := hres 0; have r1 := hres 1; simp only [zi, zag, zfZ, zga, zgd, zgb, zgc] at r0 r1; clear hres hx hy hf2; go_wp2_with fail
  (try simp only [Exit.inBlock, Exit.then])
  refine bodyPost_ret (v := .tuple #[.agg #[.slice none 0 0, .slice none 0 0], .bool false]) (by simp [results, Tryz.results30, go_sem, r0, r1]) rfl ?_; exact ⟨[_, _], [], by rw [HM.out], by rw [HM.out]; exact zbQ _, by simp, (hB.setCell (by simp) _).setCell (by simp) _⟩
 have hlen := Stk.okK_len hok; have HOK := zgn hok; clear hok; go_wp2_with fail; refine (zcQ k _ _ _ hbig (by exact hv.below hB)).mono ?_; rintro e w2 ⟨sv, lv, fs, fp, base, rfl, hsg, hsf, hsb, hlb, hbz, hrow, hlf, hb2⟩; obtain ⟨sa, sc, sf, hsv, _, n0⟩ := Sg.open hsg; obtain rfl := (List.cons.inj hsv).1; obtain ⟨la, lc, rfl, _, _⟩ := hrow.form; rw [zgl] at hrow ⊢; have st := StkVar.box hsg hsf hsb hlb hrow hlf; have hbw := hb2.trans ((zb w2 (.cells #[.slice sa k.sig.Y.length sc, .slice la k.E.length lc] 53)).mono hb2.size); have hw2 := hb2.size; clear hsg hsf hsb hrow hlf hb2 hsv n0; go_upto_region 4 with fail; generalize w2.alloc (.cells #[.slice sa k.sig.Y.length sc, .slice la k.E.length lc] 53) = wb at *; have s1' := st.c1; have hob := st.lt
 by_cases h4 : k.E.length < 2
 ·have HM := zgn (Stk.pop_one HOK.out h4)
  have h4b : decide ((k.E.length : Int) < (2 : Int)) = true := by simp; omega
  have hyw : ∀ j, wb.cell? ⟨w.heap.size + 1, j, none⟩ = (#[.slice none 0 0, .slice none 0 0] : Array Value)[j]? := zh hy (by omega) hbw; have hfw : ∀ j, wb.frozen? ⟨w.heap.size + 1, j, none⟩ = false := zK hf2 (by omega) hbw; have y0' := hyw 0; have y1' := hyw 1; have g0' := hfw 0; have g1' := hfw 1; simp only [zgd, zgb, zgc] at y0' y1'; have s0 := st.c0; have s1 := st.c1; obtain ⟨fq, hro, hfo⟩ := st.out; have hres := zw (b := w.heap.size + 1) [(0, .slice sa k.sig.Y.length sc), (1, .slice la k.E.length lc)] hyw (by simp); have r0 := hres 0; have r1 := hres 1; simp only [zi, zag, zfZ, zga, zgd, zgb, zgc] at r0 r1; have hs2 := zP (w := wb) (i := 0) (j := 1) (u := .slice sa k.sig.Y.length sc) (v := .slice la k.E.length lc) (hfo.ne (b := w.heap.size + 1) (by omega)); have hro2 := hro.same _ hs2; have hfo2 := hfo.same hs2; have hBe := hB.trans (hbw.mono (by omega)); clear hres hyw hfw; go_wp2_with fail
  (try simp only [Exit.inBlock, Exit.then])
  refine bodyPost_ret (v := .tuple #[.agg #[.slice sa k.sig.Y.length sc, .slice la k.E.length lc], .bool false]) (by simp [results, Tryz.results30, go_sem, r0, r1]) rfl ?_; exact ⟨[_, _], fs ++ fq, by rw [HM.out], by rw [HM.out]; exact hro2, fun b hb => by have := (hfo2.2 b hb).1; omega, (hBe.setCell (by simp) _).setCell (by simp) _⟩
 ·have HM := zgn (Stk.pop_yes HOK.out h4)
  have h4b : decide ((k.E.length : Int) < (2 : Int)) = false := by simp; omega
  obtain ⟨M, hM⟩ : ∃ M, M = k.E.length - 1 := ⟨_, rfl⟩
  have hM1 : ((k.E.length : Int) - 1) = (M : Int) := by omega
  rw [← hM] at HM
  have hM2 : M + 1 ≤ k.E.length := by omega
  have hM3 : k.E.length ≤ M + 1 := by omega
  clear hM; obtain ⟨fl, hrl, hfl⟩ := st.row.rd; have hlc := zg hrl; obtain ⟨_, _, hve, hcap, _⟩ := hlc; simp only [Value.slice.injEq] at hve; obtain ⟨-, -, hcc⟩ := hve; rw [← hcc] at hcap; clear hcc; obtain ⟨fq, hrt, hfq⟩ := hrl.take8 (i := M) (by rw [zgl]; omega); rw [← List.map_take] at hrt
  have hfo : ∀ b ∈ fs ++ fq, w1.heap.size ≤ b := fun b hb => by
   rcases zgg.1 hb with hb | hb
   ·exact (st.sf.2 b hb).1
   ·have h9 := hfq b hb
    rcases hfl with ⟨_, _, rfl⟩ | ⟨c, _, hc, rfl, _⟩
    ·simp at h9
    ·rcases zgk.1 h9 with rfl | h9
     ·have := (st.row.block hc).1; omega
     ·have := (st.lf.2 b h9).1; omega
  have hno : w2.heap.size ∉ fs ++ fq := fun hb => by
   rcases zgg.1 hb with hb | hb
   ·exact st.ns hb
   ·have h9 := hfq _ hb
    rcases hfl with ⟨_, _, rfl⟩ | ⟨c, _, hc, rfl, _⟩
    ·simp at h9
    ·rcases zgk.1 h9 with h9 | h9
     ·rw [← h9] at hc; exact st.nr hc
     ·exact st.nf h9
  have hro : RdVs (wb.setCell ⟨w2.heap.size, 1, none⟩ (.slice la M lc)) (Stk.mk k.sig (k.E.take M)).cd [.slice sa k.sig.Y.length sc, .slice la M lc] (fs ++ fq) := by
   have h0 : RdVs wb (Stk.mk k.sig (k.E.take M)).cd [.slice sa k.sig.Y.length sc, .slice la M lc] (fs ++ fq) := by
    unfold Stk.cd; exact st.sg.app (RdVs.single hrt)
   exact h0.same _ (zD (fun b hb (e : b = w2.heap.size) => hno (e ▸ hb)))
  have F1 := st.fr 1
  have hk2 : (0 : Int) ≤ (M : Int) := by omega
  have hk3 : ¬ ((lc : Int) < (M : Int)) := by omega
  have hk4 : decide ((M : Int) < 0) = false := decide_eq_false (by omega); have hk5 : decide ((lc : Int) < (M : Int)) = false := decide_eq_false (by omega); have hb6 := hbw.setCell (p := ⟨w2.heap.size, 1, none⟩) (by simp only; omega) (.slice la M lc); clear hfl hfq hrl hrt; have hyw : ∀ j, (wb.setCell ⟨w2.heap.size, 1, none⟩ (.slice la M lc)).cell? ⟨w.heap.size + 1, j, none⟩ = (#[.slice none 0 0, .slice none 0 0] : Array Value)[j]? := zh hy (by omega) hb6; have hfw : ∀ j, (wb.setCell ⟨w2.heap.size, 1, none⟩ (.slice la M lc)).frozen? ⟨w.heap.size + 1, j, none⟩ = false := zK hf2 (by omega) hb6; have y0' := hyw 0; have y1' := hyw 1; have g0' := hfw 0; have g1' := hfw 1; simp only [zgd, zgb, zgc] at y0' y1'
  have s0 : (wb.setCell ⟨w2.heap.size, 1, none⟩ (.slice la M lc)).cell? ⟨w2.heap.size, 0, none⟩ = some (.slice sa k.sig.Y.length sc) := by rw [zgt _ _ _ _ (by simp)]; exact st.c0
  have s1 : (wb.setCell ⟨w2.heap.size, 1, none⟩ (.slice la M lc)).cell? ⟨w2.heap.size, 1, none⟩ = some (.slice la M lc) := zgu _ _ _ st.c1; have hres := zw (b := w.heap.size + 1) [(0, .slice sa k.sig.Y.length sc), (1, (.slice la M lc))] hyw (by simp); have r0 := hres 0; have r1 := hres 1; simp only [zi, zag, zfZ, zga, zgd, zgb, zgc] at r0 r1; have hs2 := zP (w := (wb.setCell ⟨w2.heap.size, 1, none⟩ (.slice la M lc))) (i := 0) (j := 1) (u := .slice sa k.sig.Y.length sc) (v := (.slice la M lc)) (fun b hb (e : b = w.heap.size + 1) => by have := hfo b hb; omega); have hro2 := hro.same _ hs2; have hBe := hB.trans (hb6.mono (by omega)); clear hres hyw hfw; go_wp2_with fail
  (try simp only [Exit.inBlock, Exit.then])
  refine bodyPost_ret (v := .tuple #[.agg #[.slice sa k.sig.Y.length sc, (.slice la M lc)], .bool true]) (by simp [results, Tryz.results30, go_sem, r0, r1]) rfl ?_; exact ⟨[_, _], fs ++ fq, by rw [HM.out], by rw [HM.out]; exact hro2, fun b hb => by have := hfo b hb; omega, (hBe.setCell (by simp) _).setCell (by simp) _⟩
end Go.Proofs.YtbfinjiledfpcaaGreat
end
