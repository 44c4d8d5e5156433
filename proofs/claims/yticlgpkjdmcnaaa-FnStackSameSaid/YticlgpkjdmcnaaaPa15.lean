/- Parts of the proof: StackN. -/
import Derived.Test.YticlgpkjdmcnaaaPa11
import Derived.Test.YticlgpkjdmcnaaaPa10
section
namespace Go.Proofs.Yticlgpkjdmcnaaa
open Go Go.RowKit
set_option linter.unusedVariables false
set_option linter.unusedSimpArgs false
set_option maxRecDepth 100000
set_option maxHeartbeats 16000000
theorem zch {α : Type} {f : α → List CD} {xs : List α} {x : α} (h : x ∈ xs) : wtV (f x) ≤ wtR (xs.map f) := by
 induction xs with
 | nil => simp at h
 | cons y ys ih =>
  simp only [List.map_cons, wtR]
  rcases zd9.1 h with rfl | h
  ·omega
  ·have := ih h; omega
theorem asz (w : World) (o : Obj) : (w.alloc o).heap.size = w.heap.size + 1 := by simp
theorem zbK (w : World) (o : Obj) (b j : Nat) (h : b < w.heap.size) : (w.alloc o).frozen? ⟨b, j, none⟩ = w.frozen? ⟨b, j, none⟩ := zh (heap_alloc_old w o h)
theorem zaH {w : World} {b b' i j : Nat} {v u : Value} (h : w.cell? ⟨b, j, none⟩ = some u) (hne : b' ≠ b) : (w.setCell ⟨b', i, none⟩ v).cell? ⟨b, j, none⟩ = some u := (World.cell?_setCell_other w _ _ v (by simp [hne])).trans h
theorem zc5 {w : World} {b i : Nat} {v u : Value} (h : w.cell? ⟨b, i, none⟩ = some u) : (w.setCell ⟨b, i, none⟩ v).cell? ⟨b, i, none⟩ = some v := by
 exact World.cell?_setCell_same w _ v h
/-- In the midst of copying the words: the box of the copy lies behind two others. -/
structure SigAt (s : Sg) (w wq : World) (B base : Nat) (a0 : Option Addr) (c0 k : Nat) (ov : Value) (fp : List Nat) : Prop where
 le : k ≤ s.syms.length
 cell : wq.cell? ⟨B, 0, none⟩ = some ov
 own : Own wq base 72 3 ov ((s.syms.take k).map Sy.cd) fp
 row : ov.ownBlock ≠ some B
 fresh : Fresh (B + 1) wq fp
 free : ∀ j, wq.frozen? ⟨B, j, none⟩ = false
 free1 : ∀ j, wq.frozen? ⟨w.heap.size + 1, j, none⟩ = false
 res : wq.cell? ⟨w.heap.size + 1, 0, none⟩ = some (.slice none 0 0)
 par : wq.cell? ⟨w.heap.size, 0, none⟩ = some (.slice a0 s.syms.length c0)
 size : B + 1 ≤ wq.heap.size
 lo : w.heap.size + 1 < base
 lob : base ≤ B + 1
 bel : Below w.heap.size w wq
theorem zby (s : Sg) (vs : List Value) (f : List Nat) (w : World) (hbig : wtV s.cd ≤ 1048576) (hv : RdVs w s.cd vs f) :
  Calls Try.prog 42 #[.agg vs.toArray] w (zb9 s.cd w) := by
 obtain ⟨a0, c0, f0, rfl, _, m0⟩ := Sg.open hv
 have hw : s.syms.length + wtR (s.syms.map Sy.cd) ≤ 1048576 := by rw [Sg.cd, zao] at hbig; exact hbig
 have HW := Lib.hid (fun k (hk : k < s.syms.length) => show s.syms[k].args.length ≤ 1048576 by
  have h1 := zch (f := Sy.cd) (xs := s.syms) (zd6 hk)
  have h2 : s.syms[k].args.length ≤ wtV s.syms[k].cd := by simp only [Sy.cd, zF, zao]; omega
  omega)
 have hlen : s.syms.length ≤ 1048576 := by omega
 clear hw hbig
 go_enter Try.func42, Try.ntmps42
 go_wp2_with fail
 go_loopw [4] (fun i wq => ∃ (k : Nat) (ov : Value) (fp : List Nat), i = .int .i64 k ∧ SigAt s w wq (w.heap.size + 1 + 1 + 1) (w.heap.size + 1 + 1) a0 c0 k ov fp) (fun i _ => s.syms.length - (intOf i).toNat)
 case atStart =>
  have e1 := asz w (.cells #[.slice a0 s.syms.length c0] 25)
  have e2 := asz (w.alloc (.cells #[.slice a0 s.syms.length c0] 25)) (.cells #[.slice none 0 0] 25)
  have e3 := asz ((w.alloc (.cells #[.slice a0 s.syms.length c0] 25)).alloc (.cells #[.slice none 0 0] 25)) (.cells #[] 72)
  refine ⟨0, .slice (some ⟨w.heap.size + 1 + 1, 0, none⟩) 0 0, [], rfl, Nat.zero_le _, ?_, ?_, by simp [Value.ownBlock], Fresh.nil _ _, fun j => ?_, fun j => ?_, ?_, ?_, by simp, by omega, by omega, (((zb _ _).alloc (by simp) _).alloc (by simp; try omega) _).alloc (by simp; try omega) _⟩
  ·have := zy (((w.alloc (.cells #[.slice a0 s.syms.length c0] 25)).alloc (.cells #[.slice none 0 0] 25)).alloc (.cells #[] 72)) #[.slice (some ⟨w.heap.size + 1 + 1, 0, none⟩) 0 0] 25 0
   rw [e3, e2, e1] at this; exact this
  ·have := Own.empty ((w.alloc (.cells #[.slice a0 s.syms.length c0] 25)).alloc (.cells #[.slice none 0 0] 25)) (w.heap.size + 1 + 1) 72 3 (by rw [e2, e1]; omega)
   rw [e2, e1] at this
   exact this.below (zb _ _)
  ·have := zW (((w.alloc (.cells #[.slice a0 s.syms.length c0] 25)).alloc (.cells #[.slice none 0 0] 25)).alloc (.cells #[] 72)) #[.slice (some ⟨w.heap.size + 1 + 1, 0, none⟩) 0 0] 25 j
   rw [e3, e2, e1] at this; exact this
  ·have := zW (w.alloc (.cells #[.slice a0 s.syms.length c0] 25)) #[.slice none 0 0] 25 j
   rw [e1] at this; exact (zbK _ _ _ _ (by simp; try omega)).trans ((zbK _ _ _ _ (by simp)).trans this)
  ·have := zy (w.alloc (.cells #[.slice a0 s.syms.length c0] 25)) #[.slice none 0 0] 25 0
   rw [e1] at this; exact (zaV _ _ _ _ (by simp; try omega)).trans ((zaV _ _ _ _ (by simp)).trans this)
  ·have := zy w #[.slice a0 s.syms.length c0] 25 0
   exact (zaV _ _ _ _ (by simp; try omega)).trans ((zaV _ _ _ _ (by simp; try omega)).trans ((zaV _ _ _ _ (by simp)).trans this))
 case round =>
  obtain ⟨k, ov, fp, rfl, st⟩ := hrel
  have hz := st.size
  have hz0 : w.heap.size + 1 + 1 + 1 < wr.heap.size := by omega
  have hp := st.par
  by_cases hlt : k < s.syms.length
  ·obtain ⟨b, off, rfl, hbs, _⟩ := zp m0 (by omega)
   obtain ⟨ea, ec, ef, d0, d1, d2, em0, em1, em2, _⟩ := Sy.at (m0.below st.bel) hlt
   have hbz : b < wr.heap.size := by omega
   have hwk := HW.out k hlt
   have hW1 : (wr.alloc (.cells #[.string s.syms[k].name, .slice ea s.syms[k].args.length ec, .int .i64 s.syms[k].sort] 72)).heap.size = wr.heap.size + 1 := asz _ _
   go_wp2_with (at_builtin; refine zar zQ rfl _ _ rfl (wr.heap.size + 1) (.slice (some ⟨wr.heap.size + 1, 0, none⟩) 0 0) [] [] rfl (by have := Own.empty (wr.alloc (.cells #[.string s.syms[k].name, .slice ea s.syms[k].args.length ec, .int .i64 s.syms[k].sort] 72)) (wr.heap.size + 1) 3 1 (by simp); rw [hW1] at this; exact this) (s.syms[k].args.map zq) (.slice ea s.syms[k].args.length ec) ef rfl (by exact (em1.below (zb _ _)).below (zb _ _)) ?k ?na ?bytes ?len ?base ?next)
   case k => simp only [List.mem_map]; rintro e ⟨t, _, rfl⟩; exact zG t
   case na => intro q hq h; have h1 := em1.lt _ q hq; simp [Value.ownBlock] at h; omega
   case bytes => (simp; try omega)
   case len => (simp; try omega)
   case base => (simp; try omega)
   case next =>
   intro kv w2 nfp hnf hown4 hg hv4 hs4
   have hb2 : Below (wr.alloc (.cells #[.string s.syms[k].name, .slice ea s.syms[k].args.length ec, .int .i64 s.syms[k].sort] 72)).heap.size (wr.alloc (.cells #[.string s.syms[k].name, .slice ea s.syms[k].args.length ec, .int .i64 s.syms[k].sort] 72)) w2 :=
    zk (zb _ (.cells #[] 3)) hg (by simp) (fun q hq => by simp [Value.ownBlock] at hq; rw [hW1]; omega)
   try simp only [List.nil_append] at hown4
   obtain rfl : nfp = [] := by obtain ⟨ys, _, h, _⟩ := hown4; exact zL s.syms[k].args _ _ _ h
   obtain ⟨fk, hrk, hfk0, _⟩ := hown4.fresh (Fresh.nil _ _)
   have hfk : Fresh (wr.alloc (.cells #[.string s.syms[k].name, .slice ea s.syms[k].args.length ec, .int .i64 s.syms[k].sort] 72)).heap.size w2 fk := by rw [hW1]; exact hfk0
   clear hown4 hg hv4 hs4 hfk0 hnf
   have hbx := zt (n := wr.heap.size + 1) hb2 (by simp)
   obtain ⟨hx, hzx, hbw⟩ := box1 (w := wr) (wr := w2) (cs := #[.string s.syms[k].name, .slice ea s.syms[k].args.length ec, .int .i64 s.syms[k].sort]) (T := 72) hbx
   have hxf := fun j => box1_free hbx j
   have hfk1 : Fresh (wr.heap.size + 1) w2 fk := hfk.mono (by simp)
   clear hb2 hbx hfk
   obtain ⟨ka, kc, rfl, hk1, hk2⟩ := zi hrk
   have hlo := st.lo
   have hlob := st.lob
   have c2 := za st.cell hbw
   have o2 := st.own.below hbw
   have fr2 := st.fresh.below hbw
   -- behind the first store
   have hxs := zC (b := wr.heap.size) [(1, .slice ka s.syms[k].args.length kc)] hx (by simp)
   have hcs := zaH (i := 1) (v := .slice ka s.syms[k].args.length kc) c2 (b' := wr.heap.size) (by omega)
   have x0 := hxs 0
   have x1 := hxs 1
   have x2 := hxs 2
   have xf := hxf 1
   have y1 := hx 1
   simp only [zo, zaq, zdY, zdZ, zd2, zd0, zd1] at x0 x1 x2 y1
   have hne : ∀ q, q ≠ wr.heap.size → (w2.setCell ⟨wr.heap.size, 1, none⟩ (.slice ka s.syms[k].args.length kc)).heap[q]? = w2.heap[q]? := fun q hq => Below.heap_setCell _ _ _ _ hq
   have o3 := o2.same (w' := w2.setCell ⟨wr.heap.size, 1, none⟩ (.slice ka s.syms[k].args.length kc)) (fun q hq => hne q (by have := st.fresh.lt q hq; omega)) (fun q hq => hne q (by have := (st.own.block hq).2; omega))
   have hr3 := hrk.same (w' := w2.setCell ⟨wr.heap.size, 1, none⟩ (.slice ka s.syms[k].args.length kc)) _ (fun q hq => hne q (by have := (hfk1.2 q hq).1; omega))
   have hff2 : Fresh (w.heap.size + 1 + 1 + 1 + 1) w2 (fp ++ fk) := Fresh.app fr2 (fun q hq => by have := st.fresh.lt q hq; omega) (by omega) hfk1
   have hff3 := hff2.same (w' := w2.setCell ⟨wr.heap.size, 1, none⟩ (.slice ka s.syms[k].args.length kc)) (fun q hq => hne q (by
    rcases zd5.1 hq with h | h
    ·have := st.fresh.lt q h; omega
    ·have := (hfk1.2 q h).1; omega))
   have f3 := zbi (b := w.heap.size + 1 + 1 + 1) (w := w2) (fun j => (hbw.frozen (p := ⟨w.heap.size + 1 + 1 + 1, j, none⟩) hz0).trans (st.free j)) ⟨wr.heap.size, 1, none⟩ (.slice ka s.syms[k].args.length kc)
   have g3 := zbi (b := w.heap.size + 1) (w := w2) (fun j => (hbw.frozen (p := ⟨w.heap.size + 1, j, none⟩) (show w.heap.size + 1 < wr.heap.size by omega)).trans (st.free1 j)) ⟨wr.heap.size, 1, none⟩ (.slice ka s.syms[k].args.length kc)
   have r3 := zaH (i := 1) (v := .slice ka s.syms[k].args.length kc) (za st.res hbw) (b' := wr.heap.size) (by omega)
   have p3 := zaH (i := 1) (v := .slice ka s.syms[k].args.length kc) (za st.par hbw) (b' := wr.heap.size) (by omega)
   have hB3 := (st.bel.trans (hbw.mono (by omega))).setCell (p := ⟨wr.heap.size, 1, none⟩) (by simp; try omega) (.slice ka s.syms[k].args.length kc)
   have hs3 : (w2.setCell ⟨wr.heap.size, 1, none⟩ (.slice ka s.syms[k].args.length kc)).heap.size = w2.heap.size := by simp
   have hl : ((s.syms.take k).map Sy.cd).length ≤ s.syms.length := by simp; try omega
   have ALB := zb (w2.setCell ⟨wr.heap.size, 1, none⟩ (.slice ka s.syms[k].args.length kc)) (.cells #[.string s.syms[k].name, .slice ka s.syms[k].args.length kc, .int .i64 s.syms[k].sort] 72)
   have o4 := o3.below ALB
   have hr4 := hr3.below ALB
   have hff4 := hff3.below ALB
   have c4 := za hcs ALB
   have r4 := za r3 ALB
   have p4 := za p3 ALB
   have hB4 := hB3.alloc (by omega) (.cells #[.string s.syms[k].name, .slice ka s.syms[k].args.length kc, .int .i64 s.syms[k].sort] 72)
   have hnk := hfk1.2
   clear o2 o3 hr3 hff2 hff3 hxs hx hxf fr2 hne hcs r3 p3 ALB hrk
   go_wp2_with (at_builtin; refine zH zbj rfl _ _ rfl (w.heap.size + 1 + 1) _ _ _ rfl o4 ⟨w2.heap.size, 0, none⟩ 1 1 [s.syms[k].cd] [.string s.syms[k].name, .slice ka s.syms[k].args.length kc, .int .i64 s.syms[k].sort] fk rfl rfl ?rd ?k ?cells ?na ?bytes ?len ?base ?next)
   case rd => simpa using Sy.close (x := s.syms[k]) em0 hr4 em2
   case k => simp [Sy.cd_len]
   case cells =>
    intro j u hj
    have := zr (w2.setCell ⟨wr.heap.size, 1, none⟩ (.slice ka s.syms[k].args.length kc)) [.string s.syms[k].name, .slice ka s.syms[k].args.length kc, .int .i64 s.syms[k].sort] 72 j u hj
    rw [hs3] at this; exact this
   case na => exact fun q hq e => by have := (hnk q hq).1; have := (st.own.block e).2; omega
   case bytes => omega
   case len => omega
   case base => (simp; try omega)
   case next =>
    intro v' w5 hown5 hg hv' hs5
    obtain ⟨va, vn, vc, rfl⟩ := hown5.form'
    have hrow : ov.ownBlock ≠ some (w.heap.size + 1 + 1 + 1) := st.row
    have hrow1 : ov.ownBlock ≠ some (w.heap.size + 1) := st.own.row_ne (by omega)
    have hrow0 : ov.ownBlock ≠ some w.heap.size := st.own.row_ne (by omega)
    have c5 := zu hg c4 hrow
    have r5 := zu hg r4 hrow1
    have p5 := zu hg p4 hrow0
    have f5 : ∀ j, w5.frozen? ⟨w.heap.size + 1 + 1 + 1, j, none⟩ = false := fun j => zK hg (by simp; try omega) ((zbK _ _ _ _ (by rw [hs3]; omega)).trans (f3 j)) hrow
    have g5 : ∀ j, w5.frozen? ⟨w.heap.size + 1, j, none⟩ = false := fun j => zK hg (by simp; try omega) ((zbK _ _ _ _ (by rw [hs3]; omega)).trans (g3 j)) hrow1
    have hff5 := hff4.same hs5
    have hB5 := zk hB4 hg (by simp; try omega) (fun q hq => by have := (st.own.block hq).1; omega)
    have hz5 := hg.size
    have hnrow : (Value.slice va vn vc).ownBlock ≠ some (w.heap.size + 1 + 1 + 1) := fun e => by
     rcases hv' _ e with h | h
     ·exact st.row h
     ·simp at h; omega
    rw [asz, hs3] at hz5
    have f50 := f5 0
    have hsB : SameOn (fp ++ fk) w5 (w5.setCell ⟨w.heap.size + 1 + 1 + 1, 0, none⟩ (.slice va vn vc)) := fun q hq => Below.heap_setCell _ _ _ _ (by have := (hff5.2 q hq).1; simp only; omega)
    have hown6 := hown5.same hsB (fun q hq => Below.heap_setCell _ _ _ _ (by rintro rfl; exact hnrow hq))
    have hff6 := hff5.same hsB
    have hfin : SigAt s w (w5.setCell ⟨w.heap.size + 1 + 1 + 1, 0, none⟩ (.slice va vn vc)) (w.heap.size + 1 + 1 + 1) (w.heap.size + 1 + 1) (some ⟨b, off, none⟩) c0 (k + 1) (.slice va vn vc) (fp ++ fk) := by
     refine ⟨by omega, zc5 c5, ?_, hnrow, hff6, fun j => zbi f5 _ _ j, fun j => zbi g5 _ _ j, zaH r5 (by omega), zaH p5 (by omega), by simp; try omega, hlo, hlob, hB5.setCell (by simp; try omega) _⟩
     rw [zd4 hlt, zd8]; simpa using hown6
    clear hown6 hff6 hown5 hff5 hB5 hg hs5 o4 hr4 hff4 c4 r4 hB4 hB3 hsB
    go_wp2_with fail
    go_roundw
    case rel => exact ⟨k + 1, .slice va vn vc, fp ++ fk, by go_num, hfin⟩
    case measure => simp [intOf]; omega
  ·have he : s.syms.take k = s.syms := List.take_of_length_le (by omega)
   have hown := st.own
   have hlo := st.lo
   have hlob := st.lob
   rw [he] at hown
   clear he
   obtain ⟨oa, on, oc, rfl⟩ := hown.form'
   obtain ⟨fp', h1, h2, _⟩ := hown.fresh (st.fresh.mono hlob)
   obtain ⟨_, _, he, h3, h4⟩ := zi h1
   cases he
   have hc := st.cell
   have hr := st.res
   have hf := st.free1 0
   have hbel := st.bel
   have hp := st.par
   go_wp2_with fail
   refine bodyPost_ret (v := .agg #[.slice oa s.syms.length oc]) (by simp [results, Try.results42, go_sem, World.cell?_setCell_same _ _ _ hr]) rfl ?_
   have hne : ∀ q, q ≠ w.heap.size + 1 → (wr.setCell ⟨w.heap.size + 1, 0, none⟩ (.slice oa s.syms.length oc)).heap[q]? = wr.heap[q]? := fun q hq => Below.heap_setCell _ _ _ _ hq
   have hsm : SameOn fp' wr (wr.setCell ⟨w.heap.size + 1, 0, none⟩ (.slice oa s.syms.length oc)) := fun q hq => hne q (by have := (h2.2 q hq).1; omega)
   exact ⟨[.slice oa s.syms.length oc], fp', rfl, Sg.close (x := s) (h1.same _ hsm), (h2.same hsm).mono (by omega), hbel.setCell (by simp) _⟩
end Go.Proofs.Yticlgpkjdmcnaaa
end
