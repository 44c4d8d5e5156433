/- Parts of the proof: TakeL StkR. -/
import Derived.Test.YticlgpkjdmcnaaaPa1
import Derived.Test.YticlgpkjdmcnaaaPa37
section
namespace Go.Proofs.Yticlgpkjdmcnaaa
open Go Go.RowKit
set_option linter.unusedVariables false
set_option linter.unusedSimpArgs false
set_option maxRecDepth 100000
set_option maxHeartbeats 16000000
theorem RdRows.take8 {w : World} {b : Nat} : ∀ {es : List (List CD)} {off : Nat} {fp : List Nat}, RdRows w b off es fp → ∀ i, ∃ fq, RdRows w b off (es.take i) fq ∧ ∀ x ∈ fq, x ∈ fp
 | [], off, fp, h, i => ⟨fp, by simpa using h, fun x hx => hx⟩
 | e :: es, off, fp, h, 0 => ⟨[], by simp [RdRows], by simp⟩
 | e :: es, off, fp, h, i + 1 => by
  simp only [RdRows] at h
  obtain ⟨vs, f1, f2, rfl, hc, hv, hr⟩ := h
  obtain ⟨fq, h1, h2⟩ := hr.take8 i
  refine ⟨f1 ++ fq, by rw [List.take_succ_cons]; simp only [RdRows]; exact ⟨vs, f1, fq, rfl, hc, hv, h1⟩, fun x hx => ?_⟩
  rcases zd5.1 hx with hx | hx
  ·exact List.mem_append_left _ hx
  ·exact List.mem_append_right _ (h2 x hx)
/-- What is sliced off at the end. -/
theorem Rd.take8 {w : World} {es : List (List CD)} {a : Option Addr} {n c : Nat} {fp : List Nat} (h : Rd w (.sl es) (.slice a n c) fp) {i : Nat} (hi : i ≤ es.length) : ∃ fq, Rd w (.sl (es.take i)) (.slice a i c) fq ∧ ∀ x ∈ fq, x ∈ fp := by
 simp only [Rd] at h ⊢
 obtain ⟨a', c', e, h2, h3, h4⟩ := h
 simp only [Value.slice.injEq] at e
 obtain ⟨rfl, rfl, rfl⟩ := e
 have hl : (es.take i).length = i := by rw [List.length_take]; omega
 by_cases h0 : i = 0
 ·subst h0
  exact ⟨[], ⟨a, c, by simp, by simp, h3, .inl ⟨by simp, rfl⟩⟩, by simp⟩
 ·rcases h4 with ⟨rfl, _⟩ | ⟨hne, b, off, f, rfl, hb, rfl, hr⟩
  ·simp at hi; omega
  ·obtain ⟨fq, h5, h6⟩ := hr.take8 i
   refine ⟨b :: fq, ⟨_, c, by rw [hl], by rw [hl]; omega, h3, .inr ⟨?_, b, off, fq, rfl, hb, rfl, h5⟩⟩, fun x hx => ?_⟩
   ·intro e; rw [e] at hl; simp at hl; omega
   ·rcases zd9.1 hx with rfl | hx
    ·simp
    ·exact List.mem_cons_of_mem _ (h6 x hx)
def Stk.pop (k : Stk) : Stk × Bool := if k.okK = true then (if k.levels.length < 2 then (k, false) else (⟨k.sig, k.levels.take (k.levels.length - 1)⟩, true)) else (⟨⟨[]⟩, []⟩, false)
theorem Stk.pop_no {k : Stk} (h : k.okK = false) : k.pop = (⟨⟨[]⟩, []⟩, false) := by unfold Stk.pop; rw [h]; rfl
theorem Stk.pop_one {k : Stk} (h : k.okK = true) (h4 : k.levels.length < 2) : k.pop = (k, false) := by unfold Stk.pop; rw [if_pos h, if_pos h4]
theorem Stk.pop_yes {k : Stk} (h : k.okK = true) (h4 : ¬ k.levels.length < 2) : k.pop = (⟨k.sig, k.levels.take (k.levels.length - 1)⟩, true) := by unfold Stk.pop; rw [if_pos h, if_neg h4]
/-- .. as it comes back. -/
def BackOut (r : Stk × Bool) (w : World) (e : Ending) (w' : World) : Prop := ∃ (us : List Value) (fs : List Nat), e = .returned (.tuple #[.agg us.toArray, .bool r.2]) ∧ RdVs w' r.1.cd us fs ∧ (∀ b ∈ fs, w.heap.size ≤ b) ∧ Below w.heap.size w w'
theorem zcl (k : Stk) (vs : List Value) (f : List Nat) (w : World) (hbig : wtV k.cd ≤ 1048576) (hv : RdVs w k.cd vs f) :
  Calls Try.prog 25 #[.agg vs.toArray] w (BackOut k.pop w) := by
 obtain ⟨a0, c0, f0, a1, c1, f1, rfl, _, m0, m1⟩ := Stk.open hv
 go_enter Try.func25, Try.ntmps25
 go_wp2_with fail
 refine (zaJ k _ _ _ hbig (by exact hv.below (((Below.refl _ _).alloc (Nat.le_refl _) _).alloc (by simp) _))).mono ?_
 rintro e w1 ⟨rfl, hb1⟩
 have hbb := zt (n := w.heap.size + 1 + 1) hb1 (by simp)
 obtain ⟨hx, hy, hz, hB⟩ := box2 (w := w) (wr := w1) (cs := #[.slice a0 k.sig.syms.length c0, .slice a1 k.levels.length c1]) (ds := #[.slice none 0 0, .slice none 0 0]) (T := 28) (U := 28) hbb
 have hf2 := fun j => (zaa hbb j).2
 clear hb1 hbb
 have X0 := hx 0
 have X1 := hx 1
 simp only [zd2, zd0, zd1] at X0 X1
 cases hok : k.okK
 ·have HM := Lib.hid (Stk.pop_no hok)
  clear hok
  have y0 := hy 0
  have y1 := hy 1
  have g0 := hf2 0
  have g1 := hf2 1
  simp only [zd2, zd0, zd1] at y0 y1
  have hres := zC (b := w.heap.size + 1) [(0, .slice none 0 0), (1, .slice none 0 0)] hy (by simp)
  have r0 := hres 0
  have r1 := hres 1
  simp only [zo, zaq, zdY, zdZ, zd2, zd0, zd1] at r0 r1
  clear hres hx hy hf2
  go_wp2_with fail
  (try simp only [Exit.inBlock, Exit.then])
  refine bodyPost_ret (v := .tuple #[.agg #[.slice none 0 0, .slice none 0 0], .bool false]) (by simp [results, Try.results25, go_sem, r0, r1]) rfl ?_
  exact ⟨[_, _], [], by rw [HM.out], by rw [HM.out]; exact zck _, by simp, (hB.setCell (by simp) _).setCell (by simp) _⟩
 have hlen := Stk.okK_len hok
 have HOK := Lib.hid hok
 clear hok
 go_wp2_with fail
 refine (zbZ k _ _ _ hbig (by exact hv.below hB)).mono ?_
 rintro e w2 ⟨sv, lv, fs, fp, base, rfl, hsg, hsf, hsb, hlb, hbz, hrow, hlf, hb2⟩
 obtain ⟨sa, sc, sf, hsv, _, n0⟩ := Sg.open hsg
 obtain rfl := (List.cons.inj hsv).1
 obtain ⟨la, lc, rfl, _, _⟩ := hrow.form
 rw [zea] at hrow ⊢
 have st := StkVar.box hsg hsf hsb hlb hrow hlf
 have hbw := hb2.trans ((zb w2 (.cells #[.slice sa k.sig.syms.length sc, .slice la k.levels.length lc] 28)).mono hb2.size)
 have hw2 := hb2.size
 clear hsg hsf hsb hrow hlf hb2 hsv n0
 go_upto_region 4 with fail
 generalize w2.alloc (.cells #[.slice sa k.sig.syms.length sc, .slice la k.levels.length lc] 28) = wb at *
 have s1' := st.c1
 have hob := st.lt
 by_cases h4 : k.levels.length < 2
 ·have HM := Lib.hid (Stk.pop_one HOK.out h4)
  have h4b : decide ((k.levels.length : Int) < (2 : Int)) = true := by simp; omega
  have hyw : ∀ j, wb.cell? ⟨w.heap.size + 1, j, none⟩ = (#[.slice none 0 0, .slice none 0 0] : Array Value)[j]? := zd hy (by omega) hbw
  have hfw : ∀ j, wb.frozen? ⟨w.heap.size + 1, j, none⟩ = false := zj hf2 (by omega) hbw
  have y0' := hyw 0
  have y1' := hyw 1
  have g0' := hfw 0
  have g1' := hfw 1
  simp only [zd2, zd0, zd1] at y0' y1'
  have s0 := st.c0
  have s1 := st.c1
  obtain ⟨fq, hro, hfo⟩ := st.out
  have hres := zC (b := w.heap.size + 1) [(0, .slice sa k.sig.syms.length sc), (1, .slice la k.levels.length lc)] hyw (by simp)
  have r0 := hres 0
  have r1 := hres 1
  simp only [zo, zaq, zdY, zdZ, zd2, zd0, zd1] at r0 r1
  have hs2 := zY (w := wb) (i := 0) (j := 1) (u := .slice sa k.sig.syms.length sc) (v := .slice la k.levels.length lc) (hfo.ne (b := w.heap.size + 1) (by omega))
  have hro2 := hro.same _ hs2
  have hfo2 := hfo.same hs2
  have hBe := hB.trans (hbw.mono (by omega))
  clear hres hyw hfw
  go_wp2_with fail
  (try simp only [Exit.inBlock, Exit.then])
  refine bodyPost_ret (v := .tuple #[.agg #[.slice sa k.sig.syms.length sc, .slice la k.levels.length lc], .bool false]) (by simp [results, Try.results25, go_sem, r0, r1]) rfl ?_
  exact ⟨[_, _], fs ++ fq, by rw [HM.out], by rw [HM.out]; exact hro2, fun b hb => by have := (hfo2.2 b hb).1; omega, (hBe.setCell (by simp) _).setCell (by simp) _⟩
 ·have HM := Lib.hid (Stk.pop_yes HOK.out h4)
  have h4b : decide ((k.levels.length : Int) < (2 : Int)) = false := by simp; omega
  obtain ⟨M, hM⟩ : ∃ M, M = k.levels.length - 1 := ⟨_, rfl⟩
  have hM1 : ((k.levels.length : Int) - 1) = (M : Int) := by omega
  rw [← hM] at HM
  have hM2 : M + 1 ≤ k.levels.length := by omega
  have hM3 : k.levels.length ≤ M + 1 := by omega
  clear hM
  obtain ⟨fl, hrl, hfl⟩ := st.row.rd
  have hlc := zi hrl
  obtain ⟨_, _, hve, hcap, _⟩ := hlc
  simp only [Value.slice.injEq] at hve
  obtain ⟨-, -, hcc⟩ := hve
  rw [← hcc] at hcap
  clear hcc
  obtain ⟨fq, hrt, hfq⟩ := hrl.take8 (i := M) (by rw [zea]; omega)
  rw [← List.map_take] at hrt
  have hfo : ∀ b ∈ fs ++ fq, w1.heap.size ≤ b := fun b hb => by
   rcases zd5.1 hb with hb | hb
   ·exact (st.sf.2 b hb).1
   ·have h9 := hfq b hb
    rcases hfl with ⟨_, _, rfl⟩ | ⟨c, _, hc, rfl, _⟩
    ·simp at h9
    ·rcases zd9.1 h9 with rfl | h9
     ·have := (st.row.block hc).1; omega
     ·have := (st.lf.2 b h9).1; omega
  have hno : w2.heap.size ∉ fs ++ fq := fun hb => by
   rcases zd5.1 hb with hb | hb
   ·exact st.ns hb
   ·have h9 := hfq _ hb
    rcases hfl with ⟨_, _, rfl⟩ | ⟨c, _, hc, rfl, _⟩
    ·simp at h9
    ·rcases zd9.1 h9 with h9 | h9
     ·rw [← h9] at hc; exact st.nr hc
     ·exact st.nf h9
  have hro : RdVs (wb.setCell ⟨w2.heap.size, 1, none⟩ (.slice la M lc)) (Stk.mk k.sig (k.levels.take M)).cd [.slice sa k.sig.syms.length sc, .slice la M lc] (fs ++ fq) := by
   have h0 : RdVs wb (Stk.mk k.sig (k.levels.take M)).cd [.slice sa k.sig.syms.length sc, .slice la M lc] (fs ++ fq) := by
    unfold Stk.cd
    exact st.sg.app (RdVs.single hrt)
   exact h0.same _ (zv (fun b hb (e : b = w2.heap.size) => hno (e ▸ hb)))
  have F1 := st.fr 1
  have hk2 : (0 : Int) ≤ (M : Int) := by omega
  have hk3 : ¬ ((lc : Int) < (M : Int)) := by omega
  have hk4 : decide ((M : Int) < 0) = false := decide_eq_false (by omega)
  have hk5 : decide ((lc : Int) < (M : Int)) = false := decide_eq_false (by omega)
  have hb6 := hbw.setCell (p := ⟨w2.heap.size, 1, none⟩) (by simp only; omega) (.slice la M lc)
  clear hfl hfq hrl hrt
  have hyw : ∀ j, (wb.setCell ⟨w2.heap.size, 1, none⟩ (.slice la M lc)).cell? ⟨w.heap.size + 1, j, none⟩ = (#[.slice none 0 0, .slice none 0 0] : Array Value)[j]? := zd hy (by omega) hb6
  have hfw : ∀ j, (wb.setCell ⟨w2.heap.size, 1, none⟩ (.slice la M lc)).frozen? ⟨w.heap.size + 1, j, none⟩ = false := zj hf2 (by omega) hb6
  have y0' := hyw 0
  have y1' := hyw 1
  have g0' := hfw 0
  have g1' := hfw 1
  simp only [zd2, zd0, zd1] at y0' y1'
  have s0 : (wb.setCell ⟨w2.heap.size, 1, none⟩ (.slice la M lc)).cell? ⟨w2.heap.size, 0, none⟩ = some (.slice sa k.sig.syms.length sc) := by rw [World.cell?_setCell_other _ _ _ _ (by simp)]; exact st.c0
  have s1 : (wb.setCell ⟨w2.heap.size, 1, none⟩ (.slice la M lc)).cell? ⟨w2.heap.size, 1, none⟩ = some (.slice la M lc) := World.cell?_setCell_same _ _ _ st.c1
  have hres := zC (b := w.heap.size + 1) [(0, .slice sa k.sig.syms.length sc), (1, (.slice la M lc))] hyw (by simp)
  have r0 := hres 0
  have r1 := hres 1
  simp only [zo, zaq, zdY, zdZ, zd2, zd0, zd1] at r0 r1
  have hs2 := zY (w := (wb.setCell ⟨w2.heap.size, 1, none⟩ (.slice la M lc))) (i := 0) (j := 1) (u := .slice sa k.sig.syms.length sc) (v := (.slice la M lc)) (fun b hb (e : b = w.heap.size + 1) => by have := hfo b hb; omega)
  have hro2 := hro.same _ hs2
  have hBe := hB.trans (hb6.mono (by omega))
  clear hres hyw hfw
  go_wp2_with fail
  (try simp only [Exit.inBlock, Exit.then])
  refine bodyPost_ret (v := .tuple #[.agg #[.slice sa k.sig.syms.length sc, (.slice la M lc)], .bool true]) (by simp [results, Try.results25, go_sem, r0, r1]) rfl ?_
  exact ⟨[_, _], fs ++ fq, by rw [HM.out], by rw [HM.out]; exact hro2, fun b hb => by have := hfo b hb; omega, (hBe.setCell (by simp) _).setCell (by simp) _⟩
end Go.Proofs.Yticlgpkjdmcnaaa
end
