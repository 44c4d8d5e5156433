import Derived.Test.YteclckgihmaebaaGreatOwn
import Derived.Test.YteclckgihmaebaaGreatSig2
import Derived.OwnWalk
import Derived.Deep.CutRange
import Derived.Test.YteclckgihmaebaaGreatStkO
import Derived.Deep.RegionHeld3
import Derived.Test.YteclckgihmaebaaGreatCnt
import Derived.Test.YteclckgihmaebaaGreatExSz
import Derived.Test.YteclckgihmaebaaGreatExTo
import Derived.Test.YteclckgihmaebaaGreatExEq
/- A new stack: both sides. -/
namespace Go.Proofs.YteclckgihmaebaaGreat
open Go Go.RowKit
set_option linter.unusedVariables false
set_option linter.unusedSimpArgs false

theorem wtR_mem9 {α : Type} {f : α → List CD} {xs : List α} {x : α} (h : x ∈ xs) : wtV (f x) ≤ wtR (xs.map f) := by
  induction xs with
  | nil => simp at h
  | cons y ys ih =>
    simp only [List.map_cons, wtR]
    rcases List.mem_cons.1 h with rfl | h
    · omega
    · have := ih h; omega
theorem asz (w : World) (o : Obj) : (w.alloc o).heap.size = w.heap.size + 1 := by simp
theorem free_old (w : World) (o : Obj) (b j : Nat) (h : b < w.heap.size) : (w.alloc o).frozen? ⟨b, j, none⟩ = w.frozen? ⟨b, j, none⟩ := free_of_block (heap_alloc_old w o h)
theorem cell_set_ne {w : World} {b b' i j : Nat} {v u : Value} (h : w.cell? ⟨b, j, none⟩ = some u) (hne : b' ≠ b) : (w.setCell ⟨b', i, none⟩ v).cell? ⟨b, j, none⟩ = some u := (World.cell?_setCell_other w _ _ v (by simp [hne])).trans h
theorem cell_set_at {w : World} {b i : Nat} {v u : Value} (h : w.cell? ⟨b, i, none⟩ = some u) : (w.setCell ⟨b, i, none⟩ v).cell? ⟨b, i, none⟩ = some v := by
  exact World.cell?_setCell_same w _ v h
/-- In the midst of copying the words: the box of the copy lies behind two others. -/
structure SigAt (s : Sg) (w wq : World) (B base : Nat) (a0 : Option Addr) (c0 k : Nat) (ov : Value) (fp : List Nat) : Prop where
  le : k ≤ s.syms.length
  cell : wq.cell? ⟨B, 0, none⟩ = some ov
  own : Own wq base 90 3 ov ((s.syms.take k).map Sy.cd) fp
  row : ov.ownBlock ≠ some B
  fresh : Fresh (B + 1) wq fp
  free : ∀ j, wq.frozen? ⟨B, j, none⟩ = false
  free1 : ∀ j, wq.frozen? ⟨w.heap.size + 1, j, none⟩ = false
  res : wq.cell? ⟨w.heap.size + 1, 0, none⟩ = some (.slice none 0 0)
  par : wq.cell? ⟨w.heap.size, 0, none⟩ = some (.slice a0 s.syms.length c0)
  size : B + 1 ≤ wq.heap.size
  lo : w.heap.size + 1 < base
  lob : base ≤ B + 1
  bel : Below w.heap.size w wq

set_option maxHeartbeats 4000000 in
theorem sigOwn_any (s : Sg) (vs : List Value) (f : List Nat) (w : World) (hbig : wtV s.cd ≤ 1048576) (hv : RdVs w s.cd vs f) :
    Calls Tryz.prog 36 #[.agg vs.toArray] w (ToOutV s.cd w) := by
  obtain ⟨a0, c0, f0, rfl, _, m0⟩ := Sg.open hv
  have hw : s.syms.length + wtR (s.syms.map Sy.cd) ≤ 1048576 := by rw [Sg.cd, wtV_sl] at hbig; exact hbig
  have HW := Lib.hid (fun k (hk : k < s.syms.length) => show s.syms[k].args.length ≤ 1048576 by
    have h1 := wtR_mem9 (f := Sy.cd) (xs := s.syms) (List.getElem_mem hk)
    have h2 : s.syms[k].args.length ≤ wtV s.syms[k].cd := by simp only [Sy.cd, wtV_append, wtV_sl]; omega
    omega)
  have hlen : s.syms.length ≤ 1048576 := by omega
  clear hw hbig
  go_enter Tryz.func36, Tryz.ntmps36
  go_wp2_with fail
  go_loopw [9] (fun i wq => ∃ (k : Nat) (ov : Value) (fp : List Nat), i = .int .i64 k ∧ SigAt s w wq (w.heap.size + 1 + 1) (w.heap.size + 1 + 1 + 1) a0 c0 k ov fp) (fun i _ => s.syms.length - (intOf i).toNat)
  case atStart =>
    have e1 := asz w (.cells #[.slice a0 s.syms.length c0] 31)
    have e2 := asz (w.alloc (.cells #[.slice a0 s.syms.length c0] 31)) (.cells #[.slice none 0 0] 31)
    refine ⟨0, .slice none 0 0, [], rfl, Nat.zero_le _, ?_, Own.nil _ _ _ _, by simp [Value.ownBlock], Fresh.nil _ _, fun j => ?_, fun j => ?_, ?_, ?_, by simp, by omega, by omega, ((below_alloc _ _).alloc (by simp) _).alloc (by simp; try omega) _⟩
    · have := cell_new ((w.alloc (.cells #[.slice a0 s.syms.length c0] 31)).alloc (.cells #[.slice none 0 0] 31)) #[.slice none 0 0] 31 0
      rw [e2, e1] at this; exact this
    · have := free_new ((w.alloc (.cells #[.slice a0 s.syms.length c0] 31)).alloc (.cells #[.slice none 0 0] 31)) #[.slice none 0 0] 31 j
      rw [e2, e1] at this; exact this
    · have := free_new (w.alloc (.cells #[.slice a0 s.syms.length c0] 31)) #[.slice none 0 0] 31 j
      rw [e1] at this; exact (free_old _ _ _ _ (by simp)).trans this
    · have := cell_new (w.alloc (.cells #[.slice a0 s.syms.length c0] 31)) #[.slice none 0 0] 31 0
      rw [e1] at this; exact (cell_old _ _ _ _ (by simp)).trans this
    · have := cell_new w #[.slice a0 s.syms.length c0] 31 0
      exact (cell_old _ _ _ _ (by simp; try omega)).trans ((cell_old _ _ _ _ (by simp)).trans this)
  case round =>
    obtain ⟨k, ov, fp, rfl, st⟩ := hrel
    have hz := st.size
    have hz0 : w.heap.size + 1 + 1 < wr.heap.size := by omega
    by_cases hlt : k < s.syms.length
    · obtain ⟨b, off, rfl, hbs, _⟩ := rd_addr m0 (by omega)
      obtain ⟨ea, ec, ef, d0, d1, d2, em0, em1, em2, _⟩ := Sy.at (m0.below st.bel) hlt
      have hbz : b < wr.heap.size := by omega
      go_wp2_with fail
      refine (cloneInts_x s.syms[k].args _ _ _ (HW.out k hlt) (by exact em1.below (below_alloc _ _))).mono ?_
      rintro e w2 ⟨kv, fk, rfl, hrk, hfk, hb2⟩
      have hbx := below_size (n := wr.heap.size + 1) hb2 (by simp)
      obtain ⟨hx, hzx, hbw⟩ := box1 (w := wr) (wr := w2) (cs := #[.string s.syms[k].name, .slice ea s.syms[k].args.length ec, .int .i64 s.syms[k].sort]) (T := 90) hbx
      have hxf := fun j => box1_free hbx j
      have hfk1 : Fresh (wr.heap.size + 1) w2 fk := hfk.mono (by simp)
      clear hb2 hbx hfk
      obtain ⟨ka, kc, rfl, hk1, hk2⟩ := rd_sl_inv hrk
      have hlo := st.lo
      have hlob := st.lob
      have c2 := cell_keep st.cell hbw
      have o2 := st.own.below hbw
      have fr2 := st.fresh.below hbw
      -- behind the first store
      have hxs := cells_sets (b := wr.heap.size) [(1, .slice ka s.syms[k].args.length kc)] hx (by simp)
      have hcs := cell_set_ne (i := 1) (v := .slice ka s.syms[k].args.length kc) c2 (b' := wr.heap.size) (by omega)
      have x0 := hxs 0
      have x1 := hxs 1
      have x2 := hxs 2
      have xf := hxf 1
      have y1 := hx 1
      simp only [setAt, updAll, List.set_cons_zero, List.set_cons_succ, List.getElem?_toArray, List.getElem?_cons_zero, List.getElem?_cons_succ] at x0 x1 x2 y1
      have hne : ∀ q, q ≠ wr.heap.size → (w2.setCell ⟨wr.heap.size, 1, none⟩ (.slice ka s.syms[k].args.length kc)).heap[q]? = w2.heap[q]? := fun q hq => Below.heap_setCell _ _ _ _ hq
      have o3 := o2.same (w' := w2.setCell ⟨wr.heap.size, 1, none⟩ (.slice ka s.syms[k].args.length kc)) (fun q hq => hne q (by have := st.fresh.lt q hq; omega)) (fun q hq => hne q (by have := (st.own.block hq).2; omega))
      have hr3 := hrk.same (w' := w2.setCell ⟨wr.heap.size, 1, none⟩ (.slice ka s.syms[k].args.length kc)) _ (fun q hq => hne q (by have := (hfk1.2 q hq).1; omega))
      have hff2 : Fresh (w.heap.size + 1 + 1 + 1) w2 (fp ++ fk) := Fresh.app fr2 (fun q hq => by have := st.fresh.lt q hq; omega) (by omega) hfk1
      have hff3 := hff2.same (w' := w2.setCell ⟨wr.heap.size, 1, none⟩ (.slice ka s.syms[k].args.length kc)) (fun q hq => hne q (by
        rcases List.mem_append.1 hq with h | h
        · have := st.fresh.lt q h; omega
        · have := (hfk1.2 q h).1; omega))
      have f3 := free_set (b := w.heap.size + 1 + 1) (w := w2) (fun j => (hbw.frozen (p := ⟨w.heap.size + 1 + 1, j, none⟩) hz0).trans (st.free j)) ⟨wr.heap.size, 1, none⟩ (.slice ka s.syms[k].args.length kc)
      have g3 := free_set (b := w.heap.size + 1) (w := w2) (fun j => (hbw.frozen (p := ⟨w.heap.size + 1, j, none⟩) (show w.heap.size + 1 < wr.heap.size by omega)).trans (st.free1 j)) ⟨wr.heap.size, 1, none⟩ (.slice ka s.syms[k].args.length kc)
      have r3 := cell_set_ne (i := 1) (v := .slice ka s.syms[k].args.length kc) (cell_keep st.res hbw) (b' := wr.heap.size) (by omega)
      have p3 := cell_set_ne (i := 1) (v := .slice ka s.syms[k].args.length kc) (cell_keep st.par hbw) (b' := wr.heap.size) (by omega)
      have hB3 := (st.bel.trans (hbw.mono (by omega))).setCell (p := ⟨wr.heap.size, 1, none⟩) (by simp; try omega) (.slice ka s.syms[k].args.length kc)
      have hs3 : (w2.setCell ⟨wr.heap.size, 1, none⟩ (.slice ka s.syms[k].args.length kc)).heap.size = w2.heap.size := by simp
      have hl : ((s.syms.take k).map Sy.cd).length ≤ s.syms.length := by simp; try omega
      have ALB := below_alloc (w2.setCell ⟨wr.heap.size, 1, none⟩ (.slice ka s.syms[k].args.length kc)) (.cells #[.string s.syms[k].name, .slice ka s.syms[k].args.length kc, .int .i64 s.syms[k].sort] 90)
      have o4 := o3.below ALB
      have hr4 := hr3.below ALB
      have hff4 := hff3.below ALB
      have c4 := cell_keep hcs ALB
      have r4 := cell_keep r3 ALB
      have p4 := cell_keep p3 ALB
      have hB4 := hB3.alloc (by omega) (.cells #[.string s.syms[k].name, .slice ka s.syms[k].args.length kc, .int .i64 s.syms[k].sort] 90)
      have hnk := hfk1.2
      clear o2 o3 hr3 hff2 hff3 hxs hx hxf fr2 hne hcs r3 p3 ALB hrk
      go_wp2_with (at_builtin; refine wpList_app slTySymS rfl _ _ rfl (w.heap.size + 1 + 1 + 1) _ _ _ rfl o4 ⟨w2.heap.size, 0, none⟩ 1 1 [s.syms[k].cd] [.string s.syms[k].name, .slice ka s.syms[k].args.length kc, .int .i64 s.syms[k].sort] fk rfl rfl ?rd ?k ?cells ?na ?bytes ?len ?base ?next)
      case rd => simpa using Sy.close (x := s.syms[k]) em0 hr4 em2
      case k => simp [Sy.cd_len]
      case cells =>
        intro j u hj
        have := cells_new (w2.setCell ⟨wr.heap.size, 1, none⟩ (.slice ka s.syms[k].args.length kc)) [.string s.syms[k].name, .slice ka s.syms[k].args.length kc, .int .i64 s.syms[k].sort] 90 j u hj
        rw [hs3] at this; exact this
      case na => exact fun q hq e => by have := (hnk q hq).1; have := (st.own.block e).2; omega
      case bytes => omega
      case len => omega
      case base => (simp; try omega)
      case next =>
        intro v' w5 hown5 hg hv' hs5
        obtain ⟨va, vn, vc, rfl⟩ := hown5.form'
        have hrow : ov.ownBlock ≠ some (w.heap.size + 1 + 1) := st.row
        have hrow1 : ov.ownBlock ≠ some (w.heap.size + 1) := st.own.row_ne (by omega)
        have hrow0 : ov.ownBlock ≠ some w.heap.size := st.own.row_ne (by omega)
        have c5 := grown_cell hg c4 hrow
        have r5 := grown_cell hg r4 hrow1
        have p5 := grown_cell hg p4 hrow0
        have f5 : ∀ j, w5.frozen? ⟨w.heap.size + 1 + 1, j, none⟩ = false := fun j => grown_free hg (by simp; try omega) ((free_old _ _ _ _ (by rw [hs3]; omega)).trans (f3 j)) hrow
        have g5 : ∀ j, w5.frozen? ⟨w.heap.size + 1, j, none⟩ = false := fun j => grown_free hg (by simp; try omega) ((free_old _ _ _ _ (by rw [hs3]; omega)).trans (g3 j)) hrow1
        have hff5 := hff4.same hs5
        have hB5 := grown_below hB4 hg (by simp; try omega) (fun q hq => by have := (st.own.block hq).1; omega)
        have hz5 := hg.size
        have hnrow : (Value.slice va vn vc).ownBlock ≠ some (w.heap.size + 1 + 1) := fun e => by
          rcases hv' _ e with h | h
          · exact st.row h
          · simp at h; omega
        rw [asz, hs3] at hz5
        have f50 := f5 0
        have hsB : SameOn (fp ++ fk) w5 (w5.setCell ⟨w.heap.size + 1 + 1, 0, none⟩ (.slice va vn vc)) := fun q hq => Below.heap_setCell _ _ _ _ (by have := (hff5.2 q hq).1; simp only; omega)
        have hown6 := hown5.same hsB (fun q hq => Below.heap_setCell _ _ _ _ (by rintro rfl; exact hnrow hq))
        have hff6 := hff5.same hsB
        have hfin : SigAt s w (w5.setCell ⟨w.heap.size + 1 + 1, 0, none⟩ (.slice va vn vc)) (w.heap.size + 1 + 1) (w.heap.size + 1 + 1 + 1) (some ⟨b, off, none⟩) c0 (k + 1) (.slice va vn vc) (fp ++ fk) := by
          refine ⟨by omega, cell_set_at c5, ?_, hnrow, hff6, fun j => free_set f5 _ _ j, fun j => free_set g5 _ _ j, cell_set_ne r5 (by omega), cell_set_ne p5 (by omega), by simp; try omega, hlo, hlob, hB5.setCell (by simp; try omega) _⟩
          rw [List.take_succ_eq_append_getElem hlt, List.map_append]; simpa using hown6
        clear hown6 hff6 hown5 hff5 hB5 hg hs5 o4 hr4 hff4 c4 r4 hB4 hB3 hsB
        go_wp2_with fail
        go_roundw
        case rel => exact ⟨k + 1, .slice va vn vc, fp ++ fk, by go_num, hfin⟩
        case measure => simp [intOf]; omega
    · have he : s.syms.take k = s.syms := List.take_of_length_le (by omega)
      have hown := st.own
      have hlo := st.lo
      have hlob := st.lob
      rw [he] at hown
      clear he
      obtain ⟨oa, on, oc, rfl⟩ := hown.form'
      obtain ⟨fp', h1, h2, _⟩ := hown.fresh (st.fresh.mono hlob)
      obtain ⟨_, _, he, h3, h4⟩ := rd_sl_inv h1
      cases he
      have hc := st.cell
      have hr := st.res
      have hf := st.free1 0
      have hbel := st.bel
      have hp := st.par
      go_wp2_with fail
      refine bodyPost_ret (v := .agg #[.slice oa s.syms.length oc]) (by simp [results, Tryz.results36, go_sem, World.cell?_setCell_same _ _ _ hr]) rfl ?_
      have hne : ∀ q, q ≠ w.heap.size + 1 → (wr.setCell ⟨w.heap.size + 1, 0, none⟩ (.slice oa s.syms.length oc)).heap[q]? = wr.heap[q]? := fun q hq => Below.heap_setCell _ _ _ _ hq
      have hsm : SameOn fp' wr (wr.setCell ⟨w.heap.size + 1, 0, none⟩ (.slice oa s.syms.length oc)) := fun q hq => hne q (by have := (h2.2 q hq).1; omega)
      exact ⟨[.slice oa s.syms.length oc], fp', rfl, Sg.close (x := s) (h1.same _ hsm), (h2.same hsm).mono (by omega), hbel.setCell (by simp) _⟩

set_option maxHeartbeats 4000000 in
theorem l14Sig_any (s : Sg) (vs : List Value) (f : List Nat) (w : World) (hbig : wtV s.cd ≤ 1048576) (hv : RdVs w s.cd vs f) :
    Calls Tryz.prog 29 #[.agg vs.toArray] w (ToOutV s.cd w) := by
  obtain ⟨a0, c0, f0, rfl, _, m0⟩ := Sg.open hv
  have hw : s.syms.length + wtR (s.syms.map Sy.cd) ≤ 1048576 := by rw [Sg.cd, wtV_sl] at hbig; exact hbig
  have HW := Lib.hid (fun k (hk : k < s.syms.length) => show s.syms[k].args.length ≤ 1048576 by
    have h1 := wtR_mem9 (f := Sy.cd) (xs := s.syms) (List.getElem_mem hk)
    have h2 : s.syms[k].args.length ≤ wtV s.syms[k].cd := by simp only [Sy.cd, wtV_append, wtV_sl]; omega
    omega)
  have hlen : s.syms.length ≤ 1048576 := by omega
  clear hw hbig
  go_enter Tryz.func29, Tryz.ntmps29
  go_wp2_with fail
  go_loopw [4] (fun i wq => ∃ (k : Nat) (ov : Value) (fp : List Nat), i = .int .i64 k ∧ SigAt s w wq (w.heap.size + 1 + 1 + 1) (w.heap.size + 1 + 1) a0 c0 k ov fp) (fun i _ => s.syms.length - (intOf i).toNat)
  case atStart =>
    have e1 := asz w (.cells #[.slice a0 s.syms.length c0] 31)
    have e2 := asz (w.alloc (.cells #[.slice a0 s.syms.length c0] 31)) (.cells #[.slice none 0 0] 31)
    have e3 := asz ((w.alloc (.cells #[.slice a0 s.syms.length c0] 31)).alloc (.cells #[.slice none 0 0] 31)) (.cells #[] 90)
    refine ⟨0, .slice (some ⟨w.heap.size + 1 + 1, 0, none⟩) 0 0, [], rfl, Nat.zero_le _, ?_, ?_, by simp [Value.ownBlock], Fresh.nil _ _, fun j => ?_, fun j => ?_, ?_, ?_, by simp, by omega, by omega, (((below_alloc _ _).alloc (by simp) _).alloc (by simp; try omega) _).alloc (by simp; try omega) _⟩
    · have := cell_new (((w.alloc (.cells #[.slice a0 s.syms.length c0] 31)).alloc (.cells #[.slice none 0 0] 31)).alloc (.cells #[] 90)) #[.slice (some ⟨w.heap.size + 1 + 1, 0, none⟩) 0 0] 31 0
      rw [e3, e2, e1] at this; exact this
    · have := Own.empty ((w.alloc (.cells #[.slice a0 s.syms.length c0] 31)).alloc (.cells #[.slice none 0 0] 31)) (w.heap.size + 1 + 1) 90 3 (by rw [e2, e1]; omega)
      rw [e2, e1] at this
      exact this.below (below_alloc _ _)
    · have := free_new (((w.alloc (.cells #[.slice a0 s.syms.length c0] 31)).alloc (.cells #[.slice none 0 0] 31)).alloc (.cells #[] 90)) #[.slice (some ⟨w.heap.size + 1 + 1, 0, none⟩) 0 0] 31 j
      rw [e3, e2, e1] at this; exact this
    · have := free_new (w.alloc (.cells #[.slice a0 s.syms.length c0] 31)) #[.slice none 0 0] 31 j
      rw [e1] at this; exact (free_old _ _ _ _ (by simp; try omega)).trans ((free_old _ _ _ _ (by simp)).trans this)
    · have := cell_new (w.alloc (.cells #[.slice a0 s.syms.length c0] 31)) #[.slice none 0 0] 31 0
      rw [e1] at this; exact (cell_old _ _ _ _ (by simp; try omega)).trans ((cell_old _ _ _ _ (by simp)).trans this)
    · have := cell_new w #[.slice a0 s.syms.length c0] 31 0
      exact (cell_old _ _ _ _ (by simp; try omega)).trans ((cell_old _ _ _ _ (by simp; try omega)).trans ((cell_old _ _ _ _ (by simp)).trans this))
  case round =>
    obtain ⟨k, ov, fp, rfl, st⟩ := hrel
    have hz := st.size
    have hz0 : w.heap.size + 1 + 1 + 1 < wr.heap.size := by omega
    have hp := st.par
    by_cases hlt : k < s.syms.length
    · obtain ⟨b, off, rfl, hbs, _⟩ := rd_addr m0 (by omega)
      obtain ⟨ea, ec, ef, d0, d1, d2, em0, em1, em2, _⟩ := Sy.at (m0.below st.bel) hlt
      have hbz : b < wr.heap.size := by omega
      have hwk := HW.out k hlt
      have hW1 : (wr.alloc (.cells #[.string s.syms[k].name, .slice ea s.syms[k].args.length ec, .int .i64 s.syms[k].sort] 90)).heap.size = wr.heap.size + 1 := asz _ _
      go_wp2_with (at_builtin; refine wpList_appAny slTyIntS rfl _ _ rfl (wr.heap.size + 1) (.slice (some ⟨wr.heap.size + 1, 0, none⟩) 0 0) [] [] rfl (by have := Own.empty (wr.alloc (.cells #[.string s.syms[k].name, .slice ea s.syms[k].args.length ec, .int .i64 s.syms[k].sort] 90)) (wr.heap.size + 1) 3 1 (by simp); rw [hW1] at this; exact this) (s.syms[k].args.map intCd) (.slice ea s.syms[k].args.length ec) ef rfl (by exact (em1.below (below_alloc _ _)).below (below_alloc _ _)) ?k ?na ?bytes ?len ?base ?next)
      case k => simp only [List.mem_map]; rintro e ⟨t, _, rfl⟩; exact intCd_len t
      case na => intro q hq h; have h1 := em1.lt _ q hq; simp [Value.ownBlock] at h; omega
      case bytes => (simp; try omega)
      case len => (simp; try omega)
      case base => (simp; try omega)
      case next =>
      intro kv w2 nfp hnf hown4 hg hv4 hs4
      have hb2 : Below (wr.alloc (.cells #[.string s.syms[k].name, .slice ea s.syms[k].args.length ec, .int .i64 s.syms[k].sort] 90)).heap.size (wr.alloc (.cells #[.string s.syms[k].name, .slice ea s.syms[k].args.length ec, .int .i64 s.syms[k].sort] 90)) w2 :=
        grown_below (below_alloc _ (.cells #[] 3)) hg (by simp) (fun q hq => by simp [Value.ownBlock] at hq; rw [hW1]; omega)
      try simp only [List.nil_append] at hown4
      obtain rfl : nfp = [] := by obtain ⟨ys, _, h, _⟩ := hown4; exact ints_nofp s.syms[k].args _ _ _ h
      obtain ⟨fk, hrk, hfk0, _⟩ := hown4.fresh (Fresh.nil _ _)
      have hfk : Fresh (wr.alloc (.cells #[.string s.syms[k].name, .slice ea s.syms[k].args.length ec, .int .i64 s.syms[k].sort] 90)).heap.size w2 fk := by rw [hW1]; exact hfk0
      clear hown4 hg hv4 hs4 hfk0 hnf
      have hbx := below_size (n := wr.heap.size + 1) hb2 (by simp)
      obtain ⟨hx, hzx, hbw⟩ := box1 (w := wr) (wr := w2) (cs := #[.string s.syms[k].name, .slice ea s.syms[k].args.length ec, .int .i64 s.syms[k].sort]) (T := 90) hbx
      have hxf := fun j => box1_free hbx j
      have hfk1 : Fresh (wr.heap.size + 1) w2 fk := hfk.mono (by simp)
      clear hb2 hbx hfk
      obtain ⟨ka, kc, rfl, hk1, hk2⟩ := rd_sl_inv hrk
      have hlo := st.lo
      have hlob := st.lob
      have c2 := cell_keep st.cell hbw
      have o2 := st.own.below hbw
      have fr2 := st.fresh.below hbw
      -- behind the first store
      have hxs := cells_sets (b := wr.heap.size) [(1, .slice ka s.syms[k].args.length kc)] hx (by simp)
      have hcs := cell_set_ne (i := 1) (v := .slice ka s.syms[k].args.length kc) c2 (b' := wr.heap.size) (by omega)
      have x0 := hxs 0
      have x1 := hxs 1
      have x2 := hxs 2
      have xf := hxf 1
      have y1 := hx 1
      simp only [setAt, updAll, List.set_cons_zero, List.set_cons_succ, List.getElem?_toArray, List.getElem?_cons_zero, List.getElem?_cons_succ] at x0 x1 x2 y1
      have hne : ∀ q, q ≠ wr.heap.size → (w2.setCell ⟨wr.heap.size, 1, none⟩ (.slice ka s.syms[k].args.length kc)).heap[q]? = w2.heap[q]? := fun q hq => Below.heap_setCell _ _ _ _ hq
      have o3 := o2.same (w' := w2.setCell ⟨wr.heap.size, 1, none⟩ (.slice ka s.syms[k].args.length kc)) (fun q hq => hne q (by have := st.fresh.lt q hq; omega)) (fun q hq => hne q (by have := (st.own.block hq).2; omega))
      have hr3 := hrk.same (w' := w2.setCell ⟨wr.heap.size, 1, none⟩ (.slice ka s.syms[k].args.length kc)) _ (fun q hq => hne q (by have := (hfk1.2 q hq).1; omega))
      have hff2 : Fresh (w.heap.size + 1 + 1 + 1 + 1) w2 (fp ++ fk) := Fresh.app fr2 (fun q hq => by have := st.fresh.lt q hq; omega) (by omega) hfk1
      have hff3 := hff2.same (w' := w2.setCell ⟨wr.heap.size, 1, none⟩ (.slice ka s.syms[k].args.length kc)) (fun q hq => hne q (by
        rcases List.mem_append.1 hq with h | h
        · have := st.fresh.lt q h; omega
        · have := (hfk1.2 q h).1; omega))
      have f3 := free_set (b := w.heap.size + 1 + 1 + 1) (w := w2) (fun j => (hbw.frozen (p := ⟨w.heap.size + 1 + 1 + 1, j, none⟩) hz0).trans (st.free j)) ⟨wr.heap.size, 1, none⟩ (.slice ka s.syms[k].args.length kc)
      have g3 := free_set (b := w.heap.size + 1) (w := w2) (fun j => (hbw.frozen (p := ⟨w.heap.size + 1, j, none⟩) (show w.heap.size + 1 < wr.heap.size by omega)).trans (st.free1 j)) ⟨wr.heap.size, 1, none⟩ (.slice ka s.syms[k].args.length kc)
      have r3 := cell_set_ne (i := 1) (v := .slice ka s.syms[k].args.length kc) (cell_keep st.res hbw) (b' := wr.heap.size) (by omega)
      have p3 := cell_set_ne (i := 1) (v := .slice ka s.syms[k].args.length kc) (cell_keep st.par hbw) (b' := wr.heap.size) (by omega)
      have hB3 := (st.bel.trans (hbw.mono (by omega))).setCell (p := ⟨wr.heap.size, 1, none⟩) (by simp; try omega) (.slice ka s.syms[k].args.length kc)
      have hs3 : (w2.setCell ⟨wr.heap.size, 1, none⟩ (.slice ka s.syms[k].args.length kc)).heap.size = w2.heap.size := by simp
      have hl : ((s.syms.take k).map Sy.cd).length ≤ s.syms.length := by simp; try omega
      have ALB := below_alloc (w2.setCell ⟨wr.heap.size, 1, none⟩ (.slice ka s.syms[k].args.length kc)) (.cells #[.string s.syms[k].name, .slice ka s.syms[k].args.length kc, .int .i64 s.syms[k].sort] 90)
      have o4 := o3.below ALB
      have hr4 := hr3.below ALB
      have hff4 := hff3.below ALB
      have c4 := cell_keep hcs ALB
      have r4 := cell_keep r3 ALB
      have p4 := cell_keep p3 ALB
      have hB4 := hB3.alloc (by omega) (.cells #[.string s.syms[k].name, .slice ka s.syms[k].args.length kc, .int .i64 s.syms[k].sort] 90)
      have hnk := hfk1.2
      clear o2 o3 hr3 hff2 hff3 hxs hx hxf fr2 hne hcs r3 p3 ALB hrk
      go_wp2_with (at_builtin; refine wpList_app slTySymS rfl _ _ rfl (w.heap.size + 1 + 1) _ _ _ rfl o4 ⟨w2.heap.size, 0, none⟩ 1 1 [s.syms[k].cd] [.string s.syms[k].name, .slice ka s.syms[k].args.length kc, .int .i64 s.syms[k].sort] fk rfl rfl ?rd ?k ?cells ?na ?bytes ?len ?base ?next)
      case rd => simpa using Sy.close (x := s.syms[k]) em0 hr4 em2
      case k => simp [Sy.cd_len]
      case cells =>
        intro j u hj
        have := cells_new (w2.setCell ⟨wr.heap.size, 1, none⟩ (.slice ka s.syms[k].args.length kc)) [.string s.syms[k].name, .slice ka s.syms[k].args.length kc, .int .i64 s.syms[k].sort] 90 j u hj
        rw [hs3] at this; exact this
      case na => exact fun q hq e => by have := (hnk q hq).1; have := (st.own.block e).2; omega
      case bytes => omega
      case len => omega
      case base => (simp; try omega)
      case next =>
        intro v' w5 hown5 hg hv' hs5
        obtain ⟨va, vn, vc, rfl⟩ := hown5.form'
        have hrow : ov.ownBlock ≠ some (w.heap.size + 1 + 1 + 1) := st.row
        have hrow1 : ov.ownBlock ≠ some (w.heap.size + 1) := st.own.row_ne (by omega)
        have hrow0 : ov.ownBlock ≠ some w.heap.size := st.own.row_ne (by omega)
        have c5 := grown_cell hg c4 hrow
        have r5 := grown_cell hg r4 hrow1
        have p5 := grown_cell hg p4 hrow0
        have f5 : ∀ j, w5.frozen? ⟨w.heap.size + 1 + 1 + 1, j, none⟩ = false := fun j => grown_free hg (by simp; try omega) ((free_old _ _ _ _ (by rw [hs3]; omega)).trans (f3 j)) hrow
        have g5 : ∀ j, w5.frozen? ⟨w.heap.size + 1, j, none⟩ = false := fun j => grown_free hg (by simp; try omega) ((free_old _ _ _ _ (by rw [hs3]; omega)).trans (g3 j)) hrow1
        have hff5 := hff4.same hs5
        have hB5 := grown_below hB4 hg (by simp; try omega) (fun q hq => by have := (st.own.block hq).1; omega)
        have hz5 := hg.size
        have hnrow : (Value.slice va vn vc).ownBlock ≠ some (w.heap.size + 1 + 1 + 1) := fun e => by
          rcases hv' _ e with h | h
          · exact st.row h
          · simp at h; omega
        rw [asz, hs3] at hz5
        have f50 := f5 0
        have hsB : SameOn (fp ++ fk) w5 (w5.setCell ⟨w.heap.size + 1 + 1 + 1, 0, none⟩ (.slice va vn vc)) := fun q hq => Below.heap_setCell _ _ _ _ (by have := (hff5.2 q hq).1; simp only; omega)
        have hown6 := hown5.same hsB (fun q hq => Below.heap_setCell _ _ _ _ (by rintro rfl; exact hnrow hq))
        have hff6 := hff5.same hsB
        have hfin : SigAt s w (w5.setCell ⟨w.heap.size + 1 + 1 + 1, 0, none⟩ (.slice va vn vc)) (w.heap.size + 1 + 1 + 1) (w.heap.size + 1 + 1) (some ⟨b, off, none⟩) c0 (k + 1) (.slice va vn vc) (fp ++ fk) := by
          refine ⟨by omega, cell_set_at c5, ?_, hnrow, hff6, fun j => free_set f5 _ _ j, fun j => free_set g5 _ _ j, cell_set_ne r5 (by omega), cell_set_ne p5 (by omega), by simp; try omega, hlo, hlob, hB5.setCell (by simp; try omega) _⟩
          rw [List.take_succ_eq_append_getElem hlt, List.map_append]; simpa using hown6
        clear hown6 hff6 hown5 hff5 hB5 hg hs5 o4 hr4 hff4 c4 r4 hB4 hB3 hsB
        go_wp2_with fail
        go_roundw
        case rel => exact ⟨k + 1, .slice va vn vc, fp ++ fk, by go_num, hfin⟩
        case measure => simp [intOf]; omega
    · have he : s.syms.take k = s.syms := List.take_of_length_le (by omega)
      have hown := st.own
      have hlo := st.lo
      have hlob := st.lob
      rw [he] at hown
      clear he
      obtain ⟨oa, on, oc, rfl⟩ := hown.form'
      obtain ⟨fp', h1, h2, _⟩ := hown.fresh (st.fresh.mono hlob)
      obtain ⟨_, _, he, h3, h4⟩ := rd_sl_inv h1
      cases he
      have hc := st.cell
      have hr := st.res
      have hf := st.free1 0
      have hbel := st.bel
      have hp := st.par
      go_wp2_with fail
      refine bodyPost_ret (v := .agg #[.slice oa s.syms.length oc]) (by simp [results, Tryz.results29, go_sem, World.cell?_setCell_same _ _ _ hr]) rfl ?_
      have hne : ∀ q, q ≠ w.heap.size + 1 → (wr.setCell ⟨w.heap.size + 1, 0, none⟩ (.slice oa s.syms.length oc)).heap[q]? = wr.heap[q]? := fun q hq => Below.heap_setCell _ _ _ _ hq
      have hsm : SameOn fp' wr (wr.setCell ⟨w.heap.size + 1, 0, none⟩ (.slice oa s.syms.length oc)) := fun q hq => hne q (by have := (h2.2 q hq).1; omega)
      exact ⟨[.slice oa s.syms.length oc], fp', rfl, Sg.close (x := s) (h1.same _ hsm), (h2.same hsm).mono (by omega), hbel.setCell (by simp) _⟩
end Go.Proofs.YteclckgihmaebaaGreat
/- A stack in a variable, its levels growing: both sides' copies, StackPush. -/
namespace Go.Proofs.YteclckgihmaebaaGreat
open Go Go.RowKit
set_option linter.unusedVariables false
set_option linter.unusedSimpArgs false

theorem Own.set_apart {w : World} {base e k : Nat} {v : Value} {es : List (List CD)} {fp : List Nat} (h : Own w base e k v es fp) {b j : Nat} {u : Value} (hn : b ∉ fp) (ho : v.ownBlock ≠ some b) : Own (w.setCell ⟨b, j, none⟩ u) base e k v es fp :=
  h.same (sameOn_set (fun x hx (e : x = b) => hn (e ▸ hx))) fun x hx => Below.heap_setCell _ _ _ _ (fun e : x = b => ho (e ▸ hx))
/-- A stack in block ob: its words, its levels. -/
structure StkVar (w : World) (ob lo base : Nat) (s : Sg) (ls : List (List Fm)) (sv lv : Value) (fs fp : List Nat) : Prop where
  c0 : w.cell? ⟨ob, 0, none⟩ = some sv
  c1 : w.cell? ⟨ob, 1, none⟩ = some lv
  fr : ∀ j, w.frozen? ⟨ob, j, none⟩ = false
  sg : RdVs w s.cd [sv] fs
  sf : Fresh lo w fs
  sb : ∀ b ∈ fs, b < base
  lb : lo ≤ base
  row : Own w base 45 1 lv (ls.map fmsCd) fp
  lf : Fresh base w fp
  ns : ob ∉ fs
  nf : ob ∉ fp
  nr : lv.ownBlock ≠ some ob
theorem StkVar.lt {w : World} {ob lo base : Nat} {s : Sg} {ls : List (List Fm)} {sv lv : Value} {fs fp : List Nat} (h : StkVar w ob lo base s ls sv lv fs fp) : ob < w.heap.size := World.block_lt_of_cell? w _ h.c0
theorem StkVar.below {w w2 : World} {ob lo base : Nat} {s : Sg} {ls : List (List Fm)} {sv lv : Value} {fs fp : List Nat} (h : StkVar w ob lo base s ls sv lv fs fp) (hb : Below w.heap.size w w2) : StkVar w2 ob lo base s ls sv lv fs fp :=
  ⟨cell_keep h.c0 hb, cell_keep h.c1 hb, fun j => (free_of_block (hb.block ob h.lt)).trans (h.fr j), h.sg.below hb, h.sf.below hb, h.sb, h.lb, h.row.below hb, h.lf.below hb, h.ns, h.nf, h.nr⟩
theorem StkVar.app {w w4 : World} {ob lo base : Nat} {s : Sg} {ls ls' : List (List Fm)} {sv lv lv' : Value} {fs fp fp' : List Nat} (h : StkVar w ob lo base s ls sv lv fs fp) (hown : Own w4 base 45 1 lv' (ls'.map fmsCd) fp') (hf : Fresh base w4 fp') (hnf : ob ∉ fp') (hm : Moved w lv w4 lv') :
    StkVar (w4.setCell ⟨ob, 1, none⟩ lv') ob lo base s ls' sv lv' fs fp' := by
  have hcb := hm.block h.lt h.nr
  have hsg := hm.same h.sf.lt (fun b hb => h.row.row_ne (h.sb b hb))
  have hs2 := hsg.trans (sameOn_set (a := ⟨ob, 1, none⟩) (v := lv') (w := w4) (fun b hb (e : b = ob) => h.ns (e ▸ hb)))
  have hnr : lv'.ownBlock ≠ some ob := fun e => by
    rcases hm.2 ob e with h1 | h1
    · exact h.nr h1
    · have := h.lt; omega
  refine ⟨?_, ?_, fun j => ?_, h.sg.same _ hs2, h.sf.same hs2, h.sb, h.lb, hown.set_apart hnf hnr, hf.same (sameOn_set (fun b hb (e : b = ob) => hnf (e ▸ hb))), h.ns, hnf, hnr⟩
  · rw [World.cell?_setCell_other _ _ _ _ (by simp)]; exact cell_block hcb h.c0
  · exact World.cell?_setCell_same _ _ _ (cell_block hcb h.c1)
  · rw [World.frozen?_setCell]; exact free_block hcb (h.fr j)
theorem rd_sl00 {w : World} {es : List (List CD)} (he : es = []) (a : Option Addr) : Rd w (.sl es) (.slice a 0 0) [] := by
  subst he; simp only [Rd]; exact ⟨a, 0, rfl, by simp, by simp [maxLen], by simp⟩
theorem StkVar.out {w : World} {ob lo base : Nat} {s : Sg} {ls : List (List Fm)} {sv lv : Value} {fs fp : List Nat} (h : StkVar w ob lo base s ls sv lv fs fp) : ∃ fq, RdVs w (Stk.mk s ls).cd [sv, lv] (fs ++ fq) ∧ Fresh lo w (fs ++ fq) := by
  obtain ⟨fq, h1, h2, _⟩ := h.row.fresh h.lf
  refine ⟨fq, ?_, h.sf.app h.sb h.lb h2⟩
  unfold Stk.cd
  exact h.sg.app (RdVs.single h1)
theorem stk_none (w : World) : RdVs w (Stk.mk ⟨[]⟩ []).cd [.slice none 0 0, .slice none 0 0] [] := by
  have h1 := RdVs.single (nil_rd w Sy.cd)
  have h2 := RdVs.single (nil_rd w fmsCd)
  exact h1.app h2
/-- StackPush. -/
def Stk.push (k : Stk) : Stk × Bool := if k.okK = true then (if k.levels.length < 4 then (⟨k.sig, k.levels ++ [[]]⟩, true) else (k, false)) else (⟨⟨[]⟩, []⟩, false)
theorem Stk.push_no {k : Stk} (h : k.okK = false) : k.push = (⟨⟨[]⟩, []⟩, false) := by unfold Stk.push; rw [h]; rfl
theorem Stk.push_full {k : Stk} (h : k.okK = true) (h4 : ¬ k.levels.length < 4) : k.push = (k, false) := by unfold Stk.push; rw [if_pos h, if_neg h4]
theorem Stk.push_yes {k : Stk} (h : k.okK = true) (h4 : k.levels.length < 4) : k.push = (⟨k.sig, k.levels ++ [[]]⟩, true) := by unfold Stk.push; rw [if_pos h, if_pos h4]
theorem Stk.okK_len {k : Stk} (h : k.okK = true) : 1 ≤ k.levels.length ∧ k.levels.length ≤ 4 := by
  simp only [Stk.okK, Bool.and_eq_true, decide_eq_true_eq] at h; omega
/-- A stack that comes back, its levels' row the call's own. -/
def StkOut (k : Stk) (w : World) (e : Ending) (w' : World) : Prop := ∃ (sv lv : Value) (fs fp : List Nat) (base : Nat), e = .returned (.agg #[sv, lv]) ∧ RdVs w' k.sig.cd [sv] fs ∧ Fresh w.heap.size w' fs ∧ (∀ b ∈ fs, b < base) ∧ w.heap.size ≤ base ∧ base ≤ w'.heap.size ∧
  Own w' base 45 1 lv (k.levels.map fmsCd) fp ∧ Fresh base w' fp ∧ Below w.heap.size w w'
theorem StkVar.box {w' : World} {k : Stk} {sv lv : Value} {fs fp : List Nat} {base lo : Nat} (hsg : RdVs w' k.sig.cd [sv] fs) (hsf : Fresh lo w' fs) (hsb : ∀ b ∈ fs, b < base) (hlb : lo ≤ base) (hrow : Own w' base 45 1 lv (k.levels.map fmsCd) fp) (hlf : Fresh base w' fp) :
    StkVar (w'.alloc (.cells #[sv, lv] 34)) w'.heap.size lo base k.sig k.levels sv lv fs fp := by
  have hc := cell_new w' #[sv, lv] 34
  have hb := below_alloc w' (.cells #[sv, lv] 34)
  exact ⟨hc 0, hc 1, fun j => free_new _ _ _ _, hsg.below hb, hsf.below hb, hsb, hlb, hrow.below hb, hlf.below hb, fun h => by have := hsf.lt _ h; omega, fun h => by have := hlf.lt _ h; omega, fun h => by have := (hrow.block h).2; omega⟩
/-- .. as it comes back. -/
def PushOut (k : Stk) (w : World) (e : Ending) (w' : World) : Prop := ∃ (us : List Value) (fs : List Nat), e = .returned (.tuple #[.agg us.toArray, .bool k.push.2]) ∧ RdVs w' k.push.1.cd us fs ∧ Fresh w.heap.size w' fs ∧ Below w.heap.size w w'
set_option maxHeartbeats 4000000 in
theorem stkOwn_any (k : Stk) (vs : List Value) (f : List Nat) (w : World) (hbig : wtV k.cd ≤ 1048576) (hv : RdVs w k.cd vs f) :
    Calls Tryz.prog 18 #[.agg vs.toArray] w (StkOut k w) := by
  obtain ⟨a0, c0, f0, a1, c1, f1, rfl, _, m0, m1⟩ := Stk.open hv
  have hw : wtV k.cd = wtV k.sig.cd + (k.levels.length + wtR (k.levels.map fmsCd)) := by unfold Stk.cd; simp only [wtV_append, wtV_int, wtV_bool, wtV_str, wtV_sl]; try omega
  rw [hw] at hbig
  clear hw
  go_enter Tryz.func18, Tryz.ntmps18
  go_wp2_with fail
  refine (sigOwn_any k.sig _ _ _ (by omega) (by exact (Sg.close m0).below (((Below.refl _ _).alloc (Nat.le_refl _) _).alloc (by simp) _))).mono ?_
  rintro e w1 ⟨us, fs, rfl, hr, hfr, hb1⟩
  obtain ⟨sa, sc, sf, rfl, _, n0⟩ := Sg.open hr
  have hbb := below_size (n := w.heap.size + 1 + 1) hb1 (by simp)
  obtain ⟨hx, hy, hz, hB⟩ := box2 (w := w) (wr := w1) (cs := #[.slice a0 k.sig.syms.length c0, .slice a1 k.levels.length c1]) (ds := #[.slice none 0 0, .slice none 0 0]) (T := 34) (U := 34) hbb
  have hf2 := fun j => (box2_free hbb j).2
  have hfr := hfr.mono (lo' := w.heap.size + 1 + 1) (by simp)
  clear hb1 hbb
  have X1 := hx 1
  simp only [List.getElem?_toArray, List.getElem?_cons_zero, List.getElem?_cons_succ] at X1
  have hlk := hfr.lt
  have hwz : w.heap.size < w1.heap.size := by omega
  go_wp2_with fail
  have hU : Below w1.heap.size w1 (w1.alloc (.cells #[.slice sa k.sig.syms.length sc, .slice none 0 0] 34)) := below_alloc _ _
  have hc := cell_new w1 #[.slice sa k.sig.syms.length sc, .slice none 0 0] 34
  have hf := free_new w1 #[.slice sa k.sig.syms.length sc, .slice none 0 0] 34
  skip
  have st0 : StkVar (w1.alloc (.cells #[.slice sa k.sig.syms.length sc, .slice none 0 0] 34)) w1.heap.size (w.heap.size + 1 + 1) w1.heap.size k.sig [] (.slice sa k.sig.syms.length sc) (.slice none 0 0) fs [] :=
    ⟨hc 0, hc 1, hf, hr.below hU, hfr.below hU, hlk, hz, Own.nil _ _ _ _, Fresh.nil _ _, fun h => by have := hlk _ h; omega, by simp, by simp [Value.ownBlock]⟩
  clear hc hf
  go_loopw [13] (fun i wr => ∃ (n : Nat) (lv : Value) (fp : List Nat), n ≤ k.levels.length ∧ i = .int .i64 n ∧ StkVar wr w1.heap.size (w.heap.size + 1 + 1) w1.heap.size k.sig (k.levels.take n) (.slice sa k.sig.syms.length sc) lv fs fp ∧ Below w1.heap.size w1 wr) (fun i _ => k.levels.length - (intOf i).toNat)
  case atStart => exact ⟨0, _, [], Nat.zero_le _, rfl, st0, hU⟩
  case round =>
    clear st0 hU
    obtain ⟨n, lv, fp, hnl, rfl, st, hbw⟩ := hrel
    have x1 := cell_keep X1 hbw
    have y1 := st.c1
    have g1 := st.fr 1
    have hob := st.lt
    have hz1 := hbw.size
    by_cases hlt : n < k.levels.length
    · have m1w := m1.below (hB.trans (hbw.mono (by omega)))
      obtain ⟨bk, off, rfl, hbs, _⟩ := rd_addr m1w (by omega)
      obtain ⟨la, lc, lf, d0, hkd, _⟩ := fmsCd_at m1w hlt
      have hle := wtR_take_le fmsCd k.levels (n + 1)
      rw [wtR_take_succ fmsCd k.levels n hlt, fmsCd, wtV_sl] at hle
      have hown := st.row
      clear m1w
      go_wp2_with fail
      have tok1 : True := trivial
      go_region_law (first
        | (have _t := @hown2; go_loud (refine step_app slTyFormSS rfl _ _ rfl w1.heap.size _ _ fp rfl (by exact hown2) ⟨w2.heap.size, 0, none⟩ 1 1 [fmsCd k.levels[n]] [.slice p3 k.levels[n].length q3] fp3 rfl rfl (by simpa [fmsCd] using RdVs.single hr3') (by simp [fmsCd]) (by exact cells_new _ _ _) (by exact hown.away (Nat.le_refl _) hf3) (by have hl := len_map_take fmsCd k.levels n; omega) (by have hl := len_map_take fmsCd k.levels n; omega) (by simp; omega) ?_); intro v' w4 hown4 hg hv' hs4; obtain ⟨a4', n4', c4', rfl⟩ := hown4.form'; have hm4 := Moved.after (hb3.alloc hb3.size _) ⟨hg, hv'⟩; have hcb4 := hm4.block st.lt st.nr; have y1' := cell_block hcb4 y1; have g1' := free_block hcb4 g1)
        | (have _t := tok1; clear _t tok1; go_simp; go_at_call 37; refine (ownForms_x k.levels[n] _ _ _ (by omega) (by exact hkd.below (below_drew _))).mono ?_; rintro e w2 ⟨kv3, fp3, rfl, hr3, hf3, hb3⟩; obtain ⟨p3, q3, rfl, _, _⟩ := rd_sl_inv hr3; have hb3 := below_undrew' hb3; have hz2 := hb3.size; have hlz : w1.heap.size < w2.heap.size := (by omega); have hbk := hb3.block w1.heap.size (by omega); have y1w := cell_block hbk y1; have g1w := free_block hbk g1; clear hbk; have hown2 := hown.below (hb3.alloc hb3.size (.cells #[.slice p3 k.levels[n].length q3] 45)); have hr3' := hr3.below (below_alloc w2 (.cells #[.slice p3 k.levels[n].length q3] 45))))
      all_goals
        have hfr4 := ((Fresh.app (st.lf.below hb3) st.lf.lt hz1 hf3).below (below_alloc w2 (.cells #[.slice p3 k.levels[n].length q3] 45))).same hs4
        have st4 := st.app (ls' := k.levels.take (n + 1)) (by rw [List.take_succ_eq_append_getElem hlt, List.map_append]; simpa using hown4) hfr4 (fun h => by
          rcases List.mem_append.1 h with h | h
          · exact st.nf h
          · have h9 : wr.heap.size ≤ _ := (hf3.2 _ h).1
            omega) hm4
        have hbw4 : Below w1.heap.size w1 (w4.setCell ⟨w1.heap.size, 1, none⟩ (.slice a4' n4' c4')) := (hbw.trans (hm4.toBelow hz1 (fun q hq => (hown.block hq).1))).setCell (by simp) _
        go_wp2_with fail
        go_roundw
        case rel => exact ⟨n + 1, _, _, by omega, by go_num, st4, hbw4⟩
        case measure => simp [intOf]; omega
    · have he : k.levels.take n = k.levels := List.take_of_length_le (by omega)
      rw [he] at st
      clear he
      obtain ⟨la, ln, lc, rfl⟩ := st.row.form'
      have hyw : ∀ j, wr.cell? ⟨w.heap.size + 1, j, none⟩ = (#[.slice none 0 0, .slice none 0 0] : Array Value)[j]? := cells_later hy (by omega) hbw
      have hfw : ∀ j, wr.frozen? ⟨w.heap.size + 1, j, none⟩ = false := free_later hf2 (by omega) hbw
      have y0' := hyw 0
      have y1' := hyw 1
      have g0' := hfw 0
      have g1' := hfw 1
      simp only [List.getElem?_toArray, List.getElem?_cons_zero, List.getElem?_cons_succ] at y0' y1'
      have s0 := st.c0
      have hres := cells_sets (b := w.heap.size + 1) [(0, .slice sa k.sig.syms.length sc), (1, .slice la ln lc)] hyw (by simp)
      have r0 := hres 0
      have r1 := hres 1
      simp only [setAt, updAll, List.set_cons_zero, List.set_cons_succ, List.getElem?_toArray, List.getElem?_cons_zero, List.getElem?_cons_succ] at r0 r1
      have hn1 : w.heap.size + 1 ∉ fs := fun h => by have := (st.sf.2 _ h).1; omega
      have hn2 : w.heap.size + 1 ∉ fp := fun h => by have := (st.lf.2 _ h).1; omega
      have hn3 : (Value.slice la ln lc).ownBlock ≠ some (w.heap.size + 1) := fun h => by have := (st.row.block h).1; omega
      have hs1 := sameOn_set2 (w := wr) (i := 0) (j := 1) (u := .slice sa k.sig.syms.length sc) (v := .slice la ln lc) (fun b hb (e : b = w.heap.size + 1) => hn1 (e ▸ hb))
      have hs2 := sameOn_set2 (w := wr) (i := 0) (j := 1) (u := .slice sa k.sig.syms.length sc) (v := .slice la ln lc) (fun b hb (e : b = w.heap.size + 1) => hn2 (e ▸ hb))
      have hBe := hB.trans (hbw.mono (by omega))
      clear hres hyw hfw
      go_wp2_with fail
      refine bodyPost_ret (v := .agg #[.slice sa k.sig.syms.length sc, .slice la ln lc]) (by simp [results, Tryz.results18, go_sem, r0, r1]) rfl ?_
      exact ⟨_, _, fs, fp, w1.heap.size, rfl, st.sg.same _ hs1, (st.sf.same hs1).mono (by omega), st.sb, hB.size, by rw [World.size_setCell, World.size_setCell]; exact hbw.size, (st.row.set_apart hn2 hn3).set_apart hn2 hn3, st.lf.same hs2, (hBe.setCell (by simp) _).setCell (by simp) _⟩
set_option maxHeartbeats 4000000 in
theorem l14Copy_any (k : Stk) (vs : List Value) (f : List Nat) (w : World) (hbig : wtV k.cd ≤ 1048576) (hv : RdVs w k.cd vs f) :
    Calls Tryz.prog 14 #[.agg vs.toArray] w (StkOut k w) := by
  obtain ⟨a0, c0, f0, a1, c1, f1, rfl, _, m0, m1⟩ := Stk.open hv
  have hw : wtV k.cd = wtV k.sig.cd + (k.levels.length + wtR (k.levels.map fmsCd)) := by unfold Stk.cd; simp only [wtV_append, wtV_int, wtV_bool, wtV_str, wtV_sl]; try omega
  rw [hw] at hbig
  clear hw
  go_enter Tryz.func14, Tryz.ntmps14
  go_wp2_with fail
  refine (l14Sig_any k.sig _ _ _ (by omega) (by exact (Sg.close m0).below (((Below.refl _ _).alloc (Nat.le_refl _) _).alloc (by simp) _))).mono ?_
  rintro e w1 ⟨us, fs, rfl, hr, hfr, hb1⟩
  obtain ⟨sa, sc, sf, rfl, _, n0⟩ := Sg.open hr
  have hbb := below_size (n := w.heap.size + 1 + 1) hb1 (by simp)
  obtain ⟨hx, hy, hz, hB⟩ := box2 (w := w) (wr := w1) (cs := #[.slice a0 k.sig.syms.length c0, .slice a1 k.levels.length c1]) (ds := #[.slice none 0 0, .slice none 0 0]) (T := 34) (U := 34) hbb
  have hf2 := fun j => (box2_free hbb j).2
  have hfr := hfr.mono (lo' := w.heap.size + 1 + 1) (by simp)
  clear hb1 hbb
  have X1 := hx 1
  simp only [List.getElem?_toArray, List.getElem?_cons_zero, List.getElem?_cons_succ] at X1
  have hlk := hfr.lt
  have hwz : w.heap.size < w1.heap.size := by omega
  go_wp2_with fail
  have hU : Below w1.heap.size w1 ((w1.alloc (.cells #[] 45)).alloc (.cells #[.slice sa k.sig.syms.length sc, .slice (some ⟨w1.heap.size, 0, none⟩) 0 0] 34)) := (below_alloc _ _).alloc (by simp) _
  have hc := cell_new (w1.alloc (.cells #[] 45)) #[.slice sa k.sig.syms.length sc, .slice (some ⟨w1.heap.size, 0, none⟩) 0 0] 34
  have hf := free_new (w1.alloc (.cells #[] 45)) #[.slice sa k.sig.syms.length sc, .slice (some ⟨w1.heap.size, 0, none⟩) 0 0] 34
  simp only [World.size_alloc] at hc hf
  have st0 : StkVar ((w1.alloc (.cells #[] 45)).alloc (.cells #[.slice sa k.sig.syms.length sc, .slice (some ⟨w1.heap.size, 0, none⟩) 0 0] 34)) (w1.heap.size + 1) (w.heap.size + 1 + 1) w1.heap.size k.sig [] (.slice sa k.sig.syms.length sc) (.slice (some ⟨w1.heap.size, 0, none⟩) 0 0) fs [] :=
    ⟨hc 0, hc 1, hf, hr.below hU, hfr.below hU, hlk, hz, (Own.empty w1 w1.heap.size 45 1 (Nat.le_refl _)).below (below_alloc _ _), Fresh.nil _ _, fun h => by have := hlk _ h; omega, by simp, by simp [Value.ownBlock]⟩
  clear hc hf
  go_loopw [4] (fun i wr => ∃ (n : Nat) (lv : Value) (fp : List Nat), n ≤ k.levels.length ∧ i = .int .i64 n ∧ StkVar wr (w1.heap.size + 1) (w.heap.size + 1 + 1) w1.heap.size k.sig (k.levels.take n) (.slice sa k.sig.syms.length sc) lv fs fp ∧ Below w1.heap.size w1 wr) (fun i _ => k.levels.length - (intOf i).toNat)
  case atStart => exact ⟨0, _, [], Nat.zero_le _, rfl, st0, hU⟩
  case round =>
    clear st0 hU
    obtain ⟨n, lv, fp, hnl, rfl, st, hbw⟩ := hrel
    have x1 := cell_keep X1 hbw
    have y1 := st.c1
    have g1 := st.fr 1
    have hob := st.lt
    have hz1 := hbw.size
    by_cases hlt : n < k.levels.length
    · have m1w := m1.below (hB.trans (hbw.mono (by omega)))
      obtain ⟨bk, off, rfl, hbs, _⟩ := rd_addr m1w (by omega)
      obtain ⟨la, lc, lf, d0, hkd, _⟩ := fmsCd_at m1w hlt
      have hle := wtR_take_le fmsCd k.levels (n + 1)
      rw [wtR_take_succ fmsCd k.levels n hlt, fmsCd, wtV_sl] at hle
      have hown := st.row
      clear m1w
      go_wp2_with fail
      have tok1 : True := trivial
      go_region_law (first
        | (have _t := @hown2; go_loud (refine step_app slTyFormSS rfl _ _ rfl w1.heap.size _ _ fp rfl (by exact hown2) ⟨w2.heap.size, 0, none⟩ 1 1 [fmsCd k.levels[n]] [.slice p3 k.levels[n].length q3] fp3 rfl rfl (by simpa [fmsCd] using RdVs.single hr3') (by simp [fmsCd]) (by exact cells_new _ _ _) (by exact hown.away (Nat.le_refl _) hf3) (by have hl := len_map_take fmsCd k.levels n; omega) (by have hl := len_map_take fmsCd k.levels n; omega) (by simp; omega) ?_); intro v' w4 hown4 hg hv' hs4; obtain ⟨a4', n4', c4', rfl⟩ := hown4.form'; have hm4 := Moved.after (hb3.alloc hb3.size _) ⟨hg, hv'⟩; have hcb4 := hm4.block st.lt st.nr; have y1' := cell_block hcb4 y1; have g1' := free_block hcb4 g1)
        | (have _t := tok1; clear _t tok1; go_simp; go_at_call 30; refine (l14Level_x k.levels[n] _ _ _ (by omega) (by exact hkd.below (below_drew _))).mono ?_; rintro e w2 ⟨kv3, fp3, rfl, hr3, hf3, hb3⟩; obtain ⟨p3, q3, rfl, _, _⟩ := rd_sl_inv hr3; have hb3 := below_undrew' hb3; have hz2 := hb3.size; have hlz : w1.heap.size + 1 < w2.heap.size := (by omega); have hbk := hb3.block (w1.heap.size + 1) (by omega); have y1w := cell_block hbk y1; have g1w := free_block hbk g1; clear hbk; have hown2 := hown.below (hb3.alloc hb3.size (.cells #[.slice p3 k.levels[n].length q3] 45)); have hr3' := hr3.below (below_alloc w2 (.cells #[.slice p3 k.levels[n].length q3] 45))))
      all_goals
        have hfr4 := ((Fresh.app (st.lf.below hb3) st.lf.lt hz1 hf3).below (below_alloc w2 (.cells #[.slice p3 k.levels[n].length q3] 45))).same hs4
        have st4 := st.app (ls' := k.levels.take (n + 1)) (by rw [List.take_succ_eq_append_getElem hlt, List.map_append]; simpa using hown4) hfr4 (fun h => by
          rcases List.mem_append.1 h with h | h
          · exact st.nf h
          · have h9 : wr.heap.size ≤ _ := (hf3.2 _ h).1
            omega) hm4
        have hbw4 : Below w1.heap.size w1 (w4.setCell ⟨w1.heap.size + 1, 1, none⟩ (.slice a4' n4' c4')) := (hbw.trans (hm4.toBelow hz1 (fun q hq => (hown.block hq).1))).setCell (by simp) _
        go_wp2_with fail
        go_roundw
        case rel => exact ⟨n + 1, _, _, by omega, by go_num, st4, hbw4⟩
        case measure => simp [intOf]; omega
    · have he : k.levels.take n = k.levels := List.take_of_length_le (by omega)
      rw [he] at st
      clear he
      obtain ⟨la, ln, lc, rfl⟩ := st.row.form'
      have hyw : ∀ j, wr.cell? ⟨w.heap.size + 1, j, none⟩ = (#[.slice none 0 0, .slice none 0 0] : Array Value)[j]? := cells_later hy (by omega) hbw
      have hfw : ∀ j, wr.frozen? ⟨w.heap.size + 1, j, none⟩ = false := free_later hf2 (by omega) hbw
      have y0' := hyw 0
      have y1' := hyw 1
      have g0' := hfw 0
      have g1' := hfw 1
      simp only [List.getElem?_toArray, List.getElem?_cons_zero, List.getElem?_cons_succ] at y0' y1'
      have s0 := st.c0
      have hres := cells_sets (b := w.heap.size + 1) [(0, .slice sa k.sig.syms.length sc), (1, .slice la ln lc)] hyw (by simp)
      have r0 := hres 0
      have r1 := hres 1
      simp only [setAt, updAll, List.set_cons_zero, List.set_cons_succ, List.getElem?_toArray, List.getElem?_cons_zero, List.getElem?_cons_succ] at r0 r1
      have hn1 : w.heap.size + 1 ∉ fs := fun h => by have := (st.sf.2 _ h).1; omega
      have hn2 : w.heap.size + 1 ∉ fp := fun h => by have := (st.lf.2 _ h).1; omega
      have hn3 : (Value.slice la ln lc).ownBlock ≠ some (w.heap.size + 1) := fun h => by have := (st.row.block h).1; omega
      have hs1 := sameOn_set2 (w := wr) (i := 0) (j := 1) (u := .slice sa k.sig.syms.length sc) (v := .slice la ln lc) (fun b hb (e : b = w.heap.size + 1) => hn1 (e ▸ hb))
      have hs2 := sameOn_set2 (w := wr) (i := 0) (j := 1) (u := .slice sa k.sig.syms.length sc) (v := .slice la ln lc) (fun b hb (e : b = w.heap.size + 1) => hn2 (e ▸ hb))
      have hBe := hB.trans (hbw.mono (by omega))
      clear hres hyw hfw
      go_wp2_with fail
      refine bodyPost_ret (v := .agg #[.slice sa k.sig.syms.length sc, .slice la ln lc]) (by simp [results, Tryz.results14, go_sem, r0, r1]) rfl ?_
      exact ⟨_, _, fs, fp, w1.heap.size, rfl, st.sg.same _ hs1, (st.sf.same hs1).mono (by omega), st.sb, hB.size, by rw [World.size_setCell, World.size_setCell]; exact hbw.size, (st.row.set_apart hn2 hn3).set_apart hn2 hn3, st.lf.same hs2, (hBe.setCell (by simp) _).setCell (by simp) _⟩
set_option maxHeartbeats 4000000 in
theorem stackPush_any (k : Stk) (vs : List Value) (f : List Nat) (w : World) (hbig : wtV k.cd ≤ 1048576) (hv : RdVs w k.cd vs f) :
    Calls Tryz.prog 7 #[.agg vs.toArray] w (PushOut k w) := by
  obtain ⟨a0, c0, f0, a1, c1, f1, rfl, _, m0, m1⟩ := Stk.open hv
  go_enter Tryz.func7, Tryz.ntmps7
  go_wp2_with fail
  refine (stackOk_any k _ _ _ hbig (by exact hv.below (((Below.refl _ _).alloc (Nat.le_refl _) _).alloc (by simp) _))).mono ?_
  rintro e w1 ⟨rfl, hb1⟩
  have hbb := below_size (n := w.heap.size + 1 + 1) hb1 (by simp)
  obtain ⟨hx, hy, hz, hB⟩ := box2 (w := w) (wr := w1) (cs := #[.slice a0 k.sig.syms.length c0, .slice a1 k.levels.length c1]) (ds := #[.slice none 0 0, .slice none 0 0]) (T := 34) (U := 34) hbb
  have hf2 := fun j => (box2_free hbb j).2
  clear hb1 hbb
  have X0 := hx 0
  have X1 := hx 1
  simp only [List.getElem?_toArray, List.getElem?_cons_zero, List.getElem?_cons_succ] at X0 X1
  cases hok : k.okK
  · have HM := Lib.hid (Stk.push_no hok)
    clear hok
    have y0 := hy 0
    have y1 := hy 1
    have g0 := hf2 0
    have g1 := hf2 1
    simp only [List.getElem?_toArray, List.getElem?_cons_zero, List.getElem?_cons_succ] at y0 y1
    have hres := cells_sets (b := w.heap.size + 1) [(0, .slice none 0 0), (1, .slice none 0 0)] hy (by simp)
    have r0 := hres 0
    have r1 := hres 1
    simp only [setAt, updAll, List.set_cons_zero, List.set_cons_succ, List.getElem?_toArray, List.getElem?_cons_zero, List.getElem?_cons_succ] at r0 r1
    clear hres hx hy hf2
    go_wp2_with fail
    (try simp only [Exit.inBlock, Exit.then])
    refine bodyPost_ret (v := .tuple #[.agg #[.slice none 0 0, .slice none 0 0], .bool false]) (by simp [results, Tryz.results7, go_sem, r0, r1]) rfl ?_
    exact ⟨[_, _], [], by rw [HM.out], by rw [HM.out]; exact stk_none _, Fresh.nil _ _, (hB.setCell (by simp) _).setCell (by simp) _⟩
  have hlen := Stk.okK_len hok
  have HOK := Lib.hid hok
  clear hok
  go_wp2_with fail
  refine (stkOwn_any k _ _ _ hbig (by exact hv.below hB)).mono ?_
  rintro e w2 ⟨sv, lv, fs, fp, base, rfl, hsg, hsf, hsb, hlb, hbz, hrow, hlf, hb2⟩
  obtain ⟨sa, sc, sf, hsv, _, n0⟩ := Sg.open hsg
  obtain rfl := (List.cons.inj hsv).1
  obtain ⟨la, lc, rfl, _, _⟩ := hrow.form
  rw [List.length_map] at hrow ⊢
  have st := StkVar.box hsg hsf hsb hlb hrow hlf
  have hbw := hb2.trans ((below_alloc w2 (.cells #[.slice sa k.sig.syms.length sc, .slice la k.levels.length lc] 34)).mono hb2.size)
  have hw2 := hb2.size
  clear hsg hsf hsb hrow hlf hb2 hsv n0
  go_upto_region 4 with fail
  generalize w2.alloc (.cells #[.slice sa k.sig.syms.length sc, .slice la k.levels.length lc] 34) = wb at *
  have s1' := st.c1
  have hob := st.lt
  by_cases h4 : k.levels.length < 4
  rotate_left
  · have HM := Lib.hid (Stk.push_full HOK.out h4)
    have h4b : ((k.levels.length : Int) == (4 : Int)) = true := by simp; omega
    have hyw : ∀ j, wb.cell? ⟨w.heap.size + 1, j, none⟩ = (#[.slice none 0 0, .slice none 0 0] : Array Value)[j]? := cells_later hy (by omega) hbw
    have hfw : ∀ j, wb.frozen? ⟨w.heap.size + 1, j, none⟩ = false := free_later hf2 (by omega) hbw
    have y0' := hyw 0
    have y1' := hyw 1
    have g0' := hfw 0
    have g1' := hfw 1
    simp only [List.getElem?_toArray, List.getElem?_cons_zero, List.getElem?_cons_succ] at y0' y1'
    have s0 := st.c0
    have s1 := st.c1
    obtain ⟨fq, hro, hfo⟩ := st.out
    have hres := cells_sets (b := w.heap.size + 1) [(0, .slice sa k.sig.syms.length sc), (1, .slice la k.levels.length lc)] hyw (by simp)
    have r0 := hres 0
    have r1 := hres 1
    simp only [setAt, updAll, List.set_cons_zero, List.set_cons_succ, List.getElem?_toArray, List.getElem?_cons_zero, List.getElem?_cons_succ] at r0 r1
    have hs2 := sameOn_set2 (w := wb) (i := 0) (j := 1) (u := .slice sa k.sig.syms.length sc) (v := .slice la k.levels.length lc) (hfo.ne (b := w.heap.size + 1) (by omega))
    have hro2 := hro.same _ hs2
    have hfo2 := hfo.same hs2
    have hBe := hB.trans (hbw.mono (by omega))
    clear hres hyw hfw
    go_wp2_with fail
    (try simp only [Exit.inBlock, Exit.then])
    refine bodyPost_ret (v := .tuple #[.agg #[.slice sa k.sig.syms.length sc, .slice la k.levels.length lc], .bool false]) (by simp [results, Tryz.results7, go_sem, r0, r1]) rfl ?_
    exact ⟨[_, _], fs ++ fq, by rw [HM.out], by rw [HM.out]; exact hro2, hfo2.mono (by omega), (hBe.setCell (by simp) _).setCell (by simp) _⟩
  · have HM := Lib.hid (Stk.push_yes HOK.out h4)
    have h4b : ((k.levels.length : Int) == (4 : Int)) = false := by simp; omega
    have ALB : Below wb.heap.size wb (wb.alloc (.cells #[.slice none 0 0] 45)) := below_alloc _ _
    have hown := st.row.below ALB
    have hlm : (k.levels.map fmsCd).length = k.levels.length := by simp
    have hbz2 := hbw.size
    go_wp2_with (at_builtin; refine wpList_app slTyFormSS rfl _ _ rfl base _ _ fp rfl hown ⟨wb.heap.size, 0, none⟩ 1 1 [fmsCd []] [.slice none 0 0] [] rfl rfl ?rd ?kk ?cells ?na ?bytes ?len ?base ?next)
    case rd => exact by simpa [fmsCd] using RdVs.single (rd_sl00 (es := ([] : List Fm).map Fm.cd) rfl _)
    case kk => simp [fmsCd]
    case cells => exact cells_new _ _ _
    case na => simp
    case bytes => omega
    case len => omega
    case base => exact Nat.le_trans (by omega) ALB.size
    case next =>
      intro v' w6 hown6 hg hv' hs6
      have hm6 := Moved.after ALB ⟨hg, fun b hb => by simpa using hv' b hb⟩
      have F1 : w6.frozen? ⟨w2.heap.size, 1, none⟩ = false := free_block (hm6.block st.lt st.nr) (st.fr 1)
      have D1 := cell_block (hm6.block st.lt st.nr) st.c1
      have st6 := st.app (ls' := k.levels ++ [[]]) (by simpa using hown6) (fp' := fp) ((st.lf.below ALB).same (by simpa using hs6)) st.nf hm6
      have hb6 := (hbw.trans (hm6.toBelow (B := w1.heap.size) (by omega) (fun b hb => by have := (st.row.block hb).1; omega))).setCell (p := ⟨w2.heap.size, 1, none⟩) (by simp only; omega) v'
      obtain ⟨ta, tn, tc, rfl⟩ := hown6.form'
      clear hown hown6 hg hv' hs6 hm6 ALB st
      have hyw : ∀ j, (w6.setCell ⟨w2.heap.size, 1, none⟩ (.slice ta tn tc)).cell? ⟨w.heap.size + 1, j, none⟩ = (#[.slice none 0 0, .slice none 0 0] : Array Value)[j]? := cells_later hy (by omega) hb6
      have hfw : ∀ j, (w6.setCell ⟨w2.heap.size, 1, none⟩ (.slice ta tn tc)).frozen? ⟨w.heap.size + 1, j, none⟩ = false := free_later hf2 (by omega) hb6
      have y0' := hyw 0
      have y1' := hyw 1
      have g0' := hfw 0
      have g1' := hfw 1
      simp only [List.getElem?_toArray, List.getElem?_cons_zero, List.getElem?_cons_succ] at y0' y1'
      have s0 := st6.c0
      have s1 := st6.c1
      obtain ⟨fq, hro, hfo⟩ := st6.out
      have hres := cells_sets (b := w.heap.size + 1) [(0, .slice sa k.sig.syms.length sc), (1, (.slice ta tn tc))] hyw (by simp)
      have r0 := hres 0
      have r1 := hres 1
      simp only [setAt, updAll, List.set_cons_zero, List.set_cons_succ, List.getElem?_toArray, List.getElem?_cons_zero, List.getElem?_cons_succ] at r0 r1
      have hs2 := sameOn_set2 (w := (w6.setCell ⟨w2.heap.size, 1, none⟩ (.slice ta tn tc))) (i := 0) (j := 1) (u := .slice sa k.sig.syms.length sc) (v := (.slice ta tn tc)) (hfo.ne (b := w.heap.size + 1) (by omega))
      have hro2 := hro.same _ hs2
      have hfo2 := hfo.same hs2
      have hBe := hB.trans (hb6.mono (by omega))
      clear hres hyw hfw
      go_wp2_with fail
      (try simp only [Exit.inBlock, Exit.then])
      refine bodyPost_ret (v := .tuple #[.agg #[.slice sa k.sig.syms.length sc, (.slice ta tn tc)], .bool true]) (by simp [results, Tryz.results7, go_sem, r0, r1]) rfl ?_
      exact ⟨[_, _], fs ++ fq, by rw [HM.out], by rw [HM.out]; exact hro2, hfo2.mono (by omega), (hBe.setCell (by simp) _).setCell (by simp) _⟩
set_option maxHeartbeats 4000000 in
theorem stackPushS_any (k : Stk) (vs : List Value) (f : List Nat) (w : World) (hbig : wtV k.cd ≤ 1048576) (hv : RdVs w k.cd vs f) :
    Calls Tryz.prog 5 #[.agg vs.toArray] w (PushOut k w) := by
  obtain ⟨a0, c0, f0, a1, c1, f1, rfl, _, m0, m1⟩ := Stk.open hv
  go_enter Tryz.func5, Tryz.ntmps5
  go_wp2_with fail
  refine (stackOkS_any k _ _ _ hbig (by exact hv.below (((Below.refl _ _).alloc (Nat.le_refl _) _).alloc (by simp) _))).mono ?_
  rintro e w1 ⟨rfl, hb1⟩
  have hbb := below_size (n := w.heap.size + 1 + 1) hb1 (by simp)
  obtain ⟨hx, hy, hz, hB⟩ := box2 (w := w) (wr := w1) (cs := #[.slice a0 k.sig.syms.length c0, .slice a1 k.levels.length c1]) (ds := #[.slice none 0 0, .slice none 0 0]) (T := 34) (U := 34) hbb
  have hf2 := fun j => (box2_free hbb j).2
  clear hb1 hbb
  have X0 := hx 0
  have X1 := hx 1
  simp only [List.getElem?_toArray, List.getElem?_cons_zero, List.getElem?_cons_succ] at X0 X1
  cases hok : k.okK
  · have HM := Lib.hid (Stk.push_no hok)
    clear hok
    have y0 := hy 0
    have y1 := hy 1
    have g0 := hf2 0
    have g1 := hf2 1
    simp only [List.getElem?_toArray, List.getElem?_cons_zero, List.getElem?_cons_succ] at y0 y1
    have hres := cells_sets (b := w.heap.size + 1) [(0, .slice none 0 0), (1, .slice none 0 0)] hy (by simp)
    have r0 := hres 0
    have r1 := hres 1
    simp only [setAt, updAll, List.set_cons_zero, List.set_cons_succ, List.getElem?_toArray, List.getElem?_cons_zero, List.getElem?_cons_succ] at r0 r1
    clear hres hx hy hf2
    go_wp2_with fail
    (try simp only [Exit.inBlock, Exit.then])
    refine bodyPost_ret (v := .tuple #[.agg #[.slice none 0 0, .slice none 0 0], .bool false]) (by simp [results, Tryz.results5, go_sem, r0, r1]) rfl ?_
    exact ⟨[_, _], [], by rw [HM.out], by rw [HM.out]; exact stk_none _, Fresh.nil _ _, (hB.setCell (by simp) _).setCell (by simp) _⟩
  have hlen := Stk.okK_len hok
  have HOK := Lib.hid hok
  clear hok
  go_wp2_with fail
  refine (l14Copy_any k _ _ _ hbig (by exact hv.below hB)).mono ?_
  rintro e w2 ⟨sv, lv, fs, fp, base, rfl, hsg, hsf, hsb, hlb, hbz, hrow, hlf, hb2⟩
  obtain ⟨sa, sc, sf, hsv, _, n0⟩ := Sg.open hsg
  obtain rfl := (List.cons.inj hsv).1
  obtain ⟨la, lc, rfl, _, _⟩ := hrow.form
  rw [List.length_map] at hrow ⊢
  have st := StkVar.box hsg hsf hsb hlb hrow hlf
  have hbw := hb2.trans ((below_alloc w2 (.cells #[.slice sa k.sig.syms.length sc, .slice la k.levels.length lc] 34)).mono hb2.size)
  have hw2 := hb2.size
  clear hsg hsf hsb hrow hlf hb2 hsv n0
  go_upto_region 4 with fail
  generalize w2.alloc (.cells #[.slice sa k.sig.syms.length sc, .slice la k.levels.length lc] 34) = wb at *
  have s1' := st.c1
  have hob := st.lt
  by_cases h4 : k.levels.length < 4
  rotate_left
  · have HM := Lib.hid (Stk.push_full HOK.out h4)
    have h4b : decide ((4 : Int) ≤ (k.levels.length : Int)) = true := by simp; omega
    have hyw : ∀ j, wb.cell? ⟨w.heap.size + 1, j, none⟩ = (#[.slice none 0 0, .slice none 0 0] : Array Value)[j]? := cells_later hy (by omega) hbw
    have hfw : ∀ j, wb.frozen? ⟨w.heap.size + 1, j, none⟩ = false := free_later hf2 (by omega) hbw
    have y0' := hyw 0
    have y1' := hyw 1
    have g0' := hfw 0
    have g1' := hfw 1
    simp only [List.getElem?_toArray, List.getElem?_cons_zero, List.getElem?_cons_succ] at y0' y1'
    have s0 := st.c0
    have s1 := st.c1
    obtain ⟨fq, hro, hfo⟩ := st.out
    have hres := cells_sets (b := w.heap.size + 1) [(0, .slice sa k.sig.syms.length sc), (1, .slice la k.levels.length lc)] hyw (by simp)
    have r0 := hres 0
    have r1 := hres 1
    simp only [setAt, updAll, List.set_cons_zero, List.set_cons_succ, List.getElem?_toArray, List.getElem?_cons_zero, List.getElem?_cons_succ] at r0 r1
    have hs2 := sameOn_set2 (w := wb) (i := 0) (j := 1) (u := .slice sa k.sig.syms.length sc) (v := .slice la k.levels.length lc) (hfo.ne (b := w.heap.size + 1) (by omega))
    have hro2 := hro.same _ hs2
    have hfo2 := hfo.same hs2
    have hBe := hB.trans (hbw.mono (by omega))
    clear hres hyw hfw
    go_wp2_with fail
    (try simp only [Exit.inBlock, Exit.then])
    refine bodyPost_ret (v := .tuple #[.agg #[.slice sa k.sig.syms.length sc, .slice la k.levels.length lc], .bool false]) (by simp [results, Tryz.results5, go_sem, r0, r1]) rfl ?_
    exact ⟨[_, _], fs ++ fq, by rw [HM.out], by rw [HM.out]; exact hro2, hfo2.mono (by omega), (hBe.setCell (by simp) _).setCell (by simp) _⟩
  · have HM := Lib.hid (Stk.push_yes HOK.out h4)
    have h4b : decide ((4 : Int) ≤ (k.levels.length : Int)) = false := by simp; omega
    have ALB : Below wb.heap.size wb ((wb.alloc (.cells #[] 99)).alloc (.cells #[.slice (some ⟨wb.heap.size, 0, none⟩) 0 0] 45)) := (below_alloc _ _).alloc (by simp) _
    have hown := st.row.below ALB
    have hlm : (k.levels.map fmsCd).length = k.levels.length := by simp
    have hbz2 := hbw.size
    go_wp2_with (at_builtin; refine wpList_app slTyFormSS rfl _ _ rfl base _ _ fp rfl hown ⟨(wb.heap.size + 1), 0, none⟩ 1 1 [fmsCd []] [.slice (some ⟨wb.heap.size, 0, none⟩) 0 0] [] rfl rfl ?rd ?kk ?cells ?na ?bytes ?len ?base ?next)
    case rd => exact by simpa [fmsCd] using RdVs.single (rd_sl00 (es := ([] : List Fm).map Fm.cd) rfl _)
    case kk => simp [fmsCd]
    case cells => intro j u hj; have := cells_new (wb.alloc (.cells #[] 99)) [.slice (some ⟨wb.heap.size, 0, none⟩) 0 0] 45 j u hj; simpa using this
    case na => simp
    case bytes => omega
    case len => omega
    case base => exact Nat.le_trans (by omega) ALB.size
    case next =>
      intro v' w6 hown6 hg hv' hs6
      have hm6 := Moved.after ALB ⟨hg, fun b hb => by simpa using hv' b hb⟩
      have F1 : w6.frozen? ⟨w2.heap.size, 1, none⟩ = false := free_block (hm6.block st.lt st.nr) (st.fr 1)
      have D1 := cell_block (hm6.block st.lt st.nr) st.c1
      have st6 := st.app (ls' := k.levels ++ [[]]) (by simpa using hown6) (fp' := fp) ((st.lf.below ALB).same (by simpa using hs6)) st.nf hm6
      have hb6 := (hbw.trans (hm6.toBelow (B := w1.heap.size) (by omega) (fun b hb => by have := (st.row.block hb).1; omega))).setCell (p := ⟨w2.heap.size, 1, none⟩) (by simp only; omega) v'
      obtain ⟨ta, tn, tc, rfl⟩ := hown6.form'
      clear hown hown6 hg hv' hs6 hm6 ALB st
      have hyw : ∀ j, (w6.setCell ⟨w2.heap.size, 1, none⟩ (.slice ta tn tc)).cell? ⟨w.heap.size + 1, j, none⟩ = (#[.slice none 0 0, .slice none 0 0] : Array Value)[j]? := cells_later hy (by omega) hb6
      have hfw : ∀ j, (w6.setCell ⟨w2.heap.size, 1, none⟩ (.slice ta tn tc)).frozen? ⟨w.heap.size + 1, j, none⟩ = false := free_later hf2 (by omega) hb6
      have y0' := hyw 0
      have y1' := hyw 1
      have g0' := hfw 0
      have g1' := hfw 1
      simp only [List.getElem?_toArray, List.getElem?_cons_zero, List.getElem?_cons_succ] at y0' y1'
      have s0 := st6.c0
      have s1 := st6.c1
      obtain ⟨fq, hro, hfo⟩ := st6.out
      have hres := cells_sets (b := w.heap.size + 1) [(0, .slice sa k.sig.syms.length sc), (1, (.slice ta tn tc))] hyw (by simp)
      have r0 := hres 0
      have r1 := hres 1
      simp only [setAt, updAll, List.set_cons_zero, List.set_cons_succ, List.getElem?_toArray, List.getElem?_cons_zero, List.getElem?_cons_succ] at r0 r1
      have hs2 := sameOn_set2 (w := (w6.setCell ⟨w2.heap.size, 1, none⟩ (.slice ta tn tc))) (i := 0) (j := 1) (u := .slice sa k.sig.syms.length sc) (v := (.slice ta tn tc)) (hfo.ne (b := w.heap.size + 1) (by omega))
      have hro2 := hro.same _ hs2
      have hfo2 := hfo.same hs2
      have hBe := hB.trans (hb6.mono (by omega))
      clear hres hyw hfw
      go_wp2_with fail
      (try simp only [Exit.inBlock, Exit.then])
      refine bodyPost_ret (v := .tuple #[.agg #[.slice sa k.sig.syms.length sc, (.slice ta tn tc)], .bool true]) (by simp [results, Tryz.results5, go_sem, r0, r1]) rfl ?_
      exact ⟨[_, _], fs ++ fq, by rw [HM.out], by rw [HM.out]; exact hro2, hfo2.mono (by omega), (hBe.setCell (by simp) _).setCell (by simp) _⟩
end Go.Proofs.YteclckgihmaebaaGreat
/- The law FnExactStackPush returns true. -/
namespace Go.Proofs.YteclckgihmaebaaGreat
open Go Go.RowKit
set_option linter.unusedVariables false
set_option linter.unusedSimpArgs false
theorem push_cnt (k : Stk) (h : wtV k.cd ≤ 1048576) : cntT k.push.1.cd ≤ 100000000000000 := by
  have h1 := Stk.cdT_cnt k.push.1
  have h2 : wtV k.push.1.cd ≤ wtV k.cd + 1 := by
    cases hok : k.okK
    · rw [Stk.push_no hok]; simp [Stk.cd, Sg.cd, wtV, wtC, wtR]
    · by_cases h4 : k.levels.length < 4
      · rw [Stk.push_yes hok h4]
        simp only [Stk.cd, wtV_append, wtV_sl, List.map_append, List.length_append, List.map_cons, List.map_nil, wtR_append, List.length_cons, List.length_nil]
        simp only [wtR_append, List.length_append, List.length_map, List.length_cons, List.length_nil, wtR, fmsCd, wtV, wtC, List.map_nil]
        omega
      · rw [Stk.push_full hok h4]; simp only; omega
  omega
set_option maxRecDepth 100000 in
set_option maxHeartbeats 4000000 in
theorem exStackPush_walk (x0 : Stk) (v0 : List Value) (f0 : List Nat) (w : World) (hv0 : RdVs w x0.cd v0 f0) :
    Calls Tryz.prog 3 #[.agg v0.toArray] w fun e w' => e = .returned (.bool true) ∧ Below w.heap.size w w' := by
  obtain ⟨a0A0, c0A0, f0A0, a1A0, c1A0, f1A0, rfl, _, _, _⟩ := Stk.open hv0
  go_enter Tryz.func3, Tryz.ntmps3
  go_wp2_with fail
  refine (szStack_x x0 _ _ _ _ (by omega) (by omega) (by exact hv0.below (below_alloc _ _))).mono ?_
  rintro e w1 ⟨⟨r0, rfl, hr0⟩, hb⟩
  obtain ⟨X0, hz, hB⟩ := box1 (w := w) (wr := w1) (cs := #[.slice a0A0 x0.sig.syms.length c0A0, .slice a1A0 x0.levels.length c1A0]) (T := 27) (below_size hb (by simp))
  have hz0 := hB.size
  have hlX0 : w.heap.size < w1.heap.size := by omega
  clear hb
  rcases hr0 with ⟨hs0, rfl⟩ | ⟨hs0, rfl⟩
  rotate_left
  · go_wp2_with fail
    go_ret
    exact ⟨rfl, hB⟩
  go_wp2_with fail
  have hbig0 : wtV x0.cd ≤ 1048576 := by omega
  clear hs0
  have hrb : cntT ((Stk.push x0).1).cd ≤ 100000000000000 := (push_cnt x0 hbig0)
  have hbb : (((Stk.push x0).2) != ((Stk.push x0).2)) = false := by simp
  have o_X0_S := hlX0
  have base_S := hz0
  refine (toStack_x x0 _ _ _ hbig0 (by exact hv0.below hB)).mono ?_
  rintro e ws0 ⟨s0, sf0, rfl, sr0, sg0, hb⟩
  replace X0 := cells_later X0 hlX0 hb
  replace hB := hB.trans (hb.mono hz0)
  have hzn := hb.size
  replace hlX0 := Nat.lt_of_lt_of_le hlX0 hzn
  replace hz0 := Nat.le_trans hz0 hzn
  clear hb hzn
  go_wp2_with fail
  refine (stackPushS_any x0 _ _ _ hbig0 (by exact sr0)).mono ?_
  rintro e wS ⟨vS, f_S, rfl, r_S, fr_S, hb⟩
  have hi_S : ∀ b ∈ f_S, b < wS.heap.size := r_S.lt
  replace X0 := cells_later X0 hlX0 hb
  replace hB := hB.trans (hb.mono hz0)
  have hzn := hb.size
  replace hlX0 := Nat.lt_of_lt_of_le hlX0 hzn
  replace hz0 := Nat.le_trans hz0 hzn
  clear hb hzn
  have hh_S : wS.heap.size ≤ wS.heap.size := Nat.le_refl _
  have r_S' := r_S
  obtain ⟨a0S, c0S, f0S, a1S, c1S, f1S, rfl, _, _, _⟩ := Stk.open r_S'
  have ZS := cell_new wS #[.slice a0S ((Stk.push x0).1).sig.syms.length c0S, .slice a1S ((Stk.push x0).1).levels.length c1S] 34
  have o_S_ZS := hh_S
  have hb := below_alloc wS (.cells #[.slice a0S ((Stk.push x0).1).sig.syms.length c0S, .slice a1S ((Stk.push x0).1).levels.length c1S] 34)
  have hzz : (wS.alloc (.cells #[.slice a0S ((Stk.push x0).1).sig.syms.length c0S, .slice a1S ((Stk.push x0).1).levels.length c1S] 34)).heap.size = wS.heap.size + 1 := by simp
  replace X0 := cells_later X0 hlX0 hb
  replace r_S := r_S.below hb
  replace fr_S := fr_S.below hb
  replace hB := hB.trans (hb.mono hz0)
  have hzn := hb.size
  replace hlX0 := Nat.lt_of_lt_of_le hlX0 hzn
  replace hh_S := Nat.le_trans hh_S hzn
  replace hz0 := Nat.le_trans hz0 hzn
  clear hb hzn
  have hlZS : wS.heap.size < (wS.alloc (.cells #[.slice a0S ((Stk.push x0).1).sig.syms.length c0S, .slice a1S ((Stk.push x0).1).levels.length c1S] 34)).heap.size := by simp
  go_wp2_with fail
  have o_X0_T0 := hlX0
  have o_ZS_T0 := hlZS
  have o_S_T0 := hh_S
  have base_T0 := hz0
  refine (toStack_x x0 _ _ _ hbig0 (by exact hv0.below hB)).mono ?_
  rintro e wt0 ⟨t0, f_T0, rfl, r_T0, fr_T0, hb⟩
  have hi_T0 : ∀ b ∈ f_T0, b < wt0.heap.size := r_T0.lt
  replace X0 := cells_later X0 hlX0 hb
  replace ZS := cells_later ZS hlZS hb
  replace r_S := r_S.below hb
  replace fr_S := fr_S.below hb
  replace hB := hB.trans (hb.mono hz0)
  have hzn := hb.size
  replace hlX0 := Nat.lt_of_lt_of_le hlX0 hzn
  replace hlZS := Nat.lt_of_lt_of_le hlZS hzn
  replace hh_S := Nat.le_trans hh_S hzn
  replace hz0 := Nat.le_trans hz0 hzn
  clear hb hzn
  have hh_T0 : wt0.heap.size ≤ wt0.heap.size := Nat.le_refl _
  have r_T0' := r_T0
  obtain ⟨a0T0, c0T0, f0T0, a1T0, c1T0, f1T0, rfl, _, _, _⟩ := Stk.open r_T0'
  have ZT0 := cell_new wt0 #[.slice a0T0 x0.sig.syms.length c0T0, .slice a1T0 x0.levels.length c1T0] 34
  have o_S_ZT0 := hh_S
  have o_T0_ZT0 := hh_T0
  have hb := below_alloc wt0 (.cells #[.slice a0T0 x0.sig.syms.length c0T0, .slice a1T0 x0.levels.length c1T0] 34)
  have hzz : (wt0.alloc (.cells #[.slice a0T0 x0.sig.syms.length c0T0, .slice a1T0 x0.levels.length c1T0] 34)).heap.size = wt0.heap.size + 1 := by simp
  replace X0 := cells_later X0 hlX0 hb
  replace ZS := cells_later ZS hlZS hb
  replace r_S := r_S.below hb
  replace fr_S := fr_S.below hb
  replace r_T0 := r_T0.below hb
  replace fr_T0 := fr_T0.below hb
  replace hB := hB.trans (hb.mono hz0)
  have hzn := hb.size
  replace hlX0 := Nat.lt_of_lt_of_le hlX0 hzn
  replace hlZS := Nat.lt_of_lt_of_le hlZS hzn
  replace hh_S := Nat.le_trans hh_S hzn
  replace hh_T0 := Nat.le_trans hh_T0 hzn
  replace hz0 := Nat.le_trans hz0 hzn
  clear hb hzn
  have hlZT0 : wt0.heap.size < (wt0.alloc (.cells #[.slice a0T0 x0.sig.syms.length c0T0, .slice a1T0 x0.levels.length c1T0] 34)).heap.size := by simp
  go_wp2_with fail
  have o_X0_G := hlX0
  have o_ZS_G := hlZS
  have o_ZT0_G := hlZT0
  have o_S_G := hh_S
  have o_T0_G := hh_T0
  have base_G := hz0
  refine (stackPush_any x0 _ _ _ hbig0 (by exact r_T0)).mono ?_
  rintro e wG ⟨vG, f_G, rfl, r_G, fr_G, hb⟩
  have hi_G : ∀ b ∈ f_G, b < wG.heap.size := r_G.lt
  replace X0 := cells_later X0 hlX0 hb
  replace ZS := cells_later ZS hlZS hb
  replace ZT0 := cells_later ZT0 hlZT0 hb
  replace r_S := r_S.below hb
  replace fr_S := fr_S.below hb
  replace r_T0 := r_T0.below hb
  replace fr_T0 := fr_T0.below hb
  replace hB := hB.trans (hb.mono hz0)
  have hzn := hb.size
  replace hlX0 := Nat.lt_of_lt_of_le hlX0 hzn
  replace hlZS := Nat.lt_of_lt_of_le hlZS hzn
  replace hlZT0 := Nat.lt_of_lt_of_le hlZT0 hzn
  replace hh_S := Nat.le_trans hh_S hzn
  replace hh_T0 := Nat.le_trans hh_T0 hzn
  replace hz0 := Nat.le_trans hz0 hzn
  clear hb hzn
  have hh_G : wG.heap.size ≤ wG.heap.size := Nat.le_refl _
  have r_G' := r_G
  obtain ⟨a0G, c0G, f0G, a1G, c1G, f1G, rfl, _, _, _⟩ := Stk.open r_G'
  have ZG := cell_new wG #[.slice a0G ((Stk.push x0).1).sig.syms.length c0G, .slice a1G ((Stk.push x0).1).levels.length c1G] 34
  have o_S_ZG := hh_S
  have o_T0_ZG := hh_T0
  have o_G_ZG := hh_G
  have hb := below_alloc wG (.cells #[.slice a0G ((Stk.push x0).1).sig.syms.length c0G, .slice a1G ((Stk.push x0).1).levels.length c1G] 34)
  have hzz : (wG.alloc (.cells #[.slice a0G ((Stk.push x0).1).sig.syms.length c0G, .slice a1G ((Stk.push x0).1).levels.length c1G] 34)).heap.size = wG.heap.size + 1 := by simp
  replace X0 := cells_later X0 hlX0 hb
  replace ZS := cells_later ZS hlZS hb
  replace ZT0 := cells_later ZT0 hlZT0 hb
  replace r_S := r_S.below hb
  replace fr_S := fr_S.below hb
  replace r_T0 := r_T0.below hb
  replace fr_T0 := fr_T0.below hb
  replace r_G := r_G.below hb
  replace fr_G := fr_G.below hb
  replace hB := hB.trans (hb.mono hz0)
  have hzn := hb.size
  replace hlX0 := Nat.lt_of_lt_of_le hlX0 hzn
  replace hlZS := Nat.lt_of_lt_of_le hlZS hzn
  replace hlZT0 := Nat.lt_of_lt_of_le hlZT0 hzn
  replace hh_S := Nat.le_trans hh_S hzn
  replace hh_T0 := Nat.le_trans hh_T0 hzn
  replace hh_G := Nat.le_trans hh_G hzn
  replace hz0 := Nat.le_trans hz0 hzn
  clear hb hzn
  have hlZG : wG.heap.size < (wG.alloc (.cells #[.slice a0G ((Stk.push x0).1).sig.syms.length c0G, .slice a1G ((Stk.push x0).1).levels.length c1G] 34)).heap.size := by simp
  go_wp2_with fail
  refine (eqStack_x ((Stk.push x0).1) _ _ _ _ _ (by exact r_G) (by exact r_S)).mono ?_
  rintro e we1 ⟨rfl, hb⟩
  replace X0 := cells_later X0 hlX0 hb
  replace ZS := cells_later ZS hlZS hb
  replace ZT0 := cells_later ZT0 hlZT0 hb
  replace ZG := cells_later ZG hlZG hb
  replace r_S := r_S.below hb
  replace fr_S := fr_S.below hb
  replace r_T0 := r_T0.below hb
  replace fr_T0 := fr_T0.below hb
  replace r_G := r_G.below hb
  replace fr_G := fr_G.below hb
  replace hB := hB.trans (hb.mono hz0)
  have hzn := hb.size
  replace hlX0 := Nat.lt_of_lt_of_le hlX0 hzn
  replace hlZS := Nat.lt_of_lt_of_le hlZS hzn
  replace hlZT0 := Nat.lt_of_lt_of_le hlZT0 hzn
  replace hlZG := Nat.lt_of_lt_of_le hlZG hzn
  replace hh_S := Nat.le_trans hh_S hzn
  replace hh_T0 := Nat.le_trans hh_T0 hzn
  replace hh_G := Nat.le_trans hh_G hzn
  replace hz0 := Nat.le_trans hz0 hzn
  clear hb hzn
  go_wp2_with fail
  have C0_0 := X0 0
  have C0_1 := X0 1
  have C1_0 := ZS 0
  have C1_1 := ZS 1
  have C2_0 := ZT0 0
  have C2_1 := ZT0 1
  have C3_0 := ZG 0
  have C3_1 := ZG 1
  simp only [List.getElem?_toArray, List.getElem?_cons_zero, List.getElem?_cons_succ] at C0_0 C0_1 C1_0 C1_1 C2_0 C2_1 C3_0 C3_1
  go_region_held3 (fun W => W.cell? ⟨w.heap.size, 0, none⟩ = some (.slice a0A0 x0.sig.syms.length c0A0) ∧ W.cell? ⟨w.heap.size, 1, none⟩ = some (.slice a1A0 x0.levels.length c1A0) ∧ W.cell? ⟨wS.heap.size, 0, none⟩ = some (.slice a0S ((Stk.push x0).1).sig.syms.length c0S) ∧ W.cell? ⟨wS.heap.size, 1, none⟩ = some (.slice a1S ((Stk.push x0).1).levels.length c1S) ∧ W.cell? ⟨wt0.heap.size, 0, none⟩ = some (.slice a0T0 x0.sig.syms.length c0T0) ∧ W.cell? ⟨wt0.heap.size, 1, none⟩ = some (.slice a1T0 x0.levels.length c1T0) ∧ W.cell? ⟨wG.heap.size, 0, none⟩ = some (.slice a0G ((Stk.push x0).1).sig.syms.length c0G) ∧ W.cell? ⟨wG.heap.size, 1, none⟩ = some (.slice a1G ((Stk.push x0).1).levels.length c1G) ∧ Below w.heap.size w W)
    (first | exact ⟨C0_0, C0_1, C1_0, C1_1, C2_0, C2_1, C3_0, C3_1, hB.drew⟩ | (refine ⟨?_, ?_, ?_, ?_, ?_, ?_, ?_, ?_, hB.trans ((below_undrew' hbE0).mono hB.size)⟩ <;> (refine (cell_keep ?_ (below_undrew' hbE0)); assumption)) | (refine (cell_keep ?_ (below_undrew' hbE0)); assumption) | exact hB.trans ((below_undrew' hbE0).mono hB.size) | (refine ⟨?_, ?_, ?_, ?_, ?_, ?_, ?_, ?_, (hB.trans ((below_undrew' hbE0).mono hB.size)).trans (hbF0.mono (hB.trans ((below_undrew' hbE0).mono hB.size)).size)⟩ <;> (refine (cell_keep (cell_keep ?_ (below_undrew' hbE0)) hbF0); assumption)) | (refine (cell_keep (cell_keep ?_ (below_undrew' hbE0)) hbF0); assumption) | exact (hB.trans ((below_undrew' hbE0).mono hB.size)).trans (hbF0.mono (hB.trans ((below_undrew' hbE0).mono hB.size)).size))
    (first | (go_at_call 6; (with_reducible refine (toStack_x x0 _ _ _ hbig0 (by exact hv0.below (hB.drew))).mono ?_); rintro e wE0 ⟨u0, uf0, rfl, ur0, ug0, hbE0⟩) | (go_at_call 8; (with_reducible refine (eqStack_x x0 _ _ _ _ _ (by exact r_T0.below ((below_undrew' hbE0))) (by exact ur0)).mono ?_); rintro e wF0 ⟨rfl, hbF0⟩))
  have hb := below_undrew' hbE0
  clear hbE0
  replace X0 := cells_later X0 hlX0 hb
  replace ZS := cells_later ZS hlZS hb
  replace ZT0 := cells_later ZT0 hlZT0 hb
  replace ZG := cells_later ZG hlZG hb
  replace r_S := r_S.below hb
  replace fr_S := fr_S.below hb
  replace r_T0 := r_T0.below hb
  replace fr_T0 := fr_T0.below hb
  replace r_G := r_G.below hb
  replace fr_G := fr_G.below hb
  replace hB := hB.trans (hb.mono hz0)
  have hzn := hb.size
  replace hlX0 := Nat.lt_of_lt_of_le hlX0 hzn
  replace hlZS := Nat.lt_of_lt_of_le hlZS hzn
  replace hlZT0 := Nat.lt_of_lt_of_le hlZT0 hzn
  replace hlZG := Nat.lt_of_lt_of_le hlZG hzn
  replace hh_S := Nat.le_trans hh_S hzn
  replace hh_T0 := Nat.le_trans hh_T0 hzn
  replace hh_G := Nat.le_trans hh_G hzn
  replace hz0 := Nat.le_trans hz0 hzn
  clear hb hzn
  have hb := hbF0
  clear hbF0
  replace X0 := cells_later X0 hlX0 hb
  replace ZS := cells_later ZS hlZS hb
  replace ZT0 := cells_later ZT0 hlZT0 hb
  replace ZG := cells_later ZG hlZG hb
  replace r_S := r_S.below hb
  replace fr_S := fr_S.below hb
  replace r_T0 := r_T0.below hb
  replace fr_T0 := fr_T0.below hb
  replace r_G := r_G.below hb
  replace fr_G := fr_G.below hb
  replace hB := hB.trans (hb.mono hz0)
  have hzn := hb.size
  replace hlX0 := Nat.lt_of_lt_of_le hlX0 hzn
  replace hlZS := Nat.lt_of_lt_of_le hlZS hzn
  replace hlZT0 := Nat.lt_of_lt_of_le hlZT0 hzn
  replace hlZG := Nat.lt_of_lt_of_le hlZG hzn
  replace hh_S := Nat.le_trans hh_S hzn
  replace hh_T0 := Nat.le_trans hh_T0 hzn
  replace hh_G := Nat.le_trans hh_G hzn
  replace hz0 := Nat.le_trans hz0 hzn
  clear hb hzn
  clear C0_0 C0_1 C1_0 C1_1 C2_0 C2_1 C3_0 C3_1
  go_wp2_with fail
  have hcb0 : cntT x0.cd ≤ 16777216 := by have := Stk.cdT_cnt x0; omega
  refine (markStack_x x0 _ _ (1) _ (by omega) (by omega) (by exact r_T0) fr_T0.free fr_T0.1).mono ?_
  rintro e wm0 ⟨rfl, _, _, ho⟩
  replace X0 := MkV.cells ho hlX0 (fun h => by have := (fr_T0.2 _ h).1; have := hi_T0 _ h; omega) X0
  replace ZS := MkV.cells ho hlZS (fun h => by have := (fr_T0.2 _ h).1; have := hi_T0 _ h; omega) ZS
  replace ZT0 := MkV.cells ho hlZT0 (fun h => by have := (fr_T0.2 _ h).1; have := hi_T0 _ h; omega) ZT0
  replace ZG := MkV.cells ho hlZG (fun h => by have := (fr_T0.2 _ h).1; have := hi_T0 _ h; omega) ZG
  have so : SameOn f_S _ _ := ho.same (fun b hb => Nat.lt_of_lt_of_le (hi_S b hb) hh_S) (fun b hb hx => by have := hi_S b hb; have := (fr_S.2 b hb).1; have := hi_T0 b hx; have := (fr_T0.2 b hx).1; omega)
  replace r_S := r_S.same _ so
  replace fr_S := fr_S.same so
  clear so
  have so : SameOn f_G _ _ := ho.same (fun b hb => Nat.lt_of_lt_of_le (hi_G b hb) hh_G) (fun b hb hx => by have := hi_G b hb; have := (fr_G.2 b hb).1; have := hi_T0 b hx; have := (fr_T0.2 b hx).1; omega)
  replace r_G := r_G.same _ so
  replace fr_G := fr_G.same so
  clear so
  replace hB := hB.trans (ho.toBelow (B := w.heap.size) hz0 (fun b hb => by have := (fr_T0.2 b hb).1; omega))
  have hzn := ho.size
  replace hlX0 := Nat.lt_of_lt_of_le hlX0 hzn
  replace hlZS := Nat.lt_of_lt_of_le hlZS hzn
  replace hlZT0 := Nat.lt_of_lt_of_le hlZT0 hzn
  replace hlZG := Nat.lt_of_lt_of_le hlZG hzn
  replace hh_S := Nat.le_trans hh_S hzn
  replace hh_T0 := Nat.le_trans hh_T0 hzn
  replace hh_G := Nat.le_trans hh_G hzn
  replace hz0 := Nat.le_trans hz0 hzn
  clear ho hzn
  clear r_T0 fr_T0
  have hneg : decide (((1 + cntT x0.cd : Int)) < 0) = false := by simp; omega
  go_wp2_with fail
  clear hneg
  refine (eqStack_x ((Stk.push x0).1) _ _ _ _ _ (by exact r_G) (by exact r_S)).mono ?_
  rintro e we2 ⟨rfl, hb⟩
  replace X0 := cells_later X0 hlX0 hb
  replace ZS := cells_later ZS hlZS hb
  replace ZT0 := cells_later ZT0 hlZT0 hb
  replace ZG := cells_later ZG hlZG hb
  replace r_S := r_S.below hb
  replace fr_S := fr_S.below hb
  replace r_G := r_G.below hb
  replace fr_G := fr_G.below hb
  replace hB := hB.trans (hb.mono hz0)
  have hzn := hb.size
  replace hlX0 := Nat.lt_of_lt_of_le hlX0 hzn
  replace hlZS := Nat.lt_of_lt_of_le hlZS hzn
  replace hlZT0 := Nat.lt_of_lt_of_le hlZT0 hzn
  replace hlZG := Nat.lt_of_lt_of_le hlZG hzn
  replace hh_S := Nat.le_trans hh_S hzn
  replace hh_G := Nat.le_trans hh_G hzn
  replace hz0 := Nat.le_trans hz0 hzn
  clear hb hzn
  go_wp2_with fail
  refine (markStack_x ((Stk.push x0).1) _ _ 1 _ (by omega) (by omega) (by exact r_G) fr_G.free fr_G.1).mono ?_
  rintro e wM ⟨rfl, r_G', hfm, ho⟩
  replace X0 := MkV.cells ho hlX0 (fun h => by have := (fr_G.2 _ h).1; have := hi_G _ h; omega) X0
  replace ZS := MkV.cells ho hlZS (fun h => by have := (fr_G.2 _ h).1; have := hi_G _ h; omega) ZS
  replace ZT0 := MkV.cells ho hlZT0 (fun h => by have := (fr_G.2 _ h).1; have := hi_G _ h; omega) ZT0
  replace ZG := MkV.cells ho hlZG (fun h => by have := (fr_G.2 _ h).1; have := hi_G _ h; omega) ZG
  have so : SameOn f_S _ _ := ho.same (fun b hb => Nat.lt_of_lt_of_le (hi_S b hb) hh_S) (fun b hb hx => by have := hi_S b hb; have := (fr_S.2 b hb).1; have := hi_G b hx; have := (fr_G.2 b hx).1; omega)
  replace r_S := r_S.same _ so
  replace fr_S := fr_S.same so
  clear so
  replace hB := hB.trans (ho.toBelow (B := w.heap.size) hz0 (fun b hb => by have := (fr_G.2 b hb).1; omega))
  have hzn := ho.size
  replace hlX0 := Nat.lt_of_lt_of_le hlX0 hzn
  replace hlZS := Nat.lt_of_lt_of_le hlZS hzn
  replace hlZT0 := Nat.lt_of_lt_of_le hlZT0 hzn
  replace hlZG := Nat.lt_of_lt_of_le hlZG hzn
  replace hh_S := Nat.le_trans hh_S hzn
  replace hh_G := Nat.le_trans hh_G hzn
  replace hz0 := Nat.le_trans hz0 hzn
  clear ho hzn
  have fr_M : True := trivial
  clear r_G fr_G
  have r_G := r_G'
  clear r_G' hfm
  go_wp2_with fail
  refine (heldStack_x ((Stk.push x0).1) _ _ _ _ _ 1 _ (by omega) (by omega) (by exact r_G)).mono ?_
  rintro e wh3 ⟨rfl, hb⟩
  replace r_G := r_G.below hb
  replace X0 := cells_later X0 hlX0 hb
  replace ZS := cells_later ZS hlZS hb
  replace ZT0 := cells_later ZT0 hlZT0 hb
  replace ZG := cells_later ZG hlZG hb
  replace r_S := r_S.below hb
  replace fr_S := fr_S.below hb
  replace hB := hB.trans (hb.mono hz0)
  have hzn := hb.size
  replace hlX0 := Nat.lt_of_lt_of_le hlX0 hzn
  replace hlZS := Nat.lt_of_lt_of_le hlZS hzn
  replace hlZT0 := Nat.lt_of_lt_of_le hlZT0 hzn
  replace hlZG := Nat.lt_of_lt_of_le hlZG hzn
  replace hh_S := Nat.le_trans hh_S hzn
  replace hz0 := Nat.le_trans hz0 hzn
  clear hb hzn
  have hneg : decide (((1 + cntT ((Stk.push x0).1).cd : Int)) < 0) = false := by simp; omega
  have hne : ((1 + cntT ((Stk.push x0).1).cd : Int) != (1 + cntT ((Stk.push x0).1).cd : Int)) = false := by simp
  go_wp2_with fail
  clear hneg hne
  refine (toStack_x x0 _ _ _ hbig0 (by exact hv0.below hB)).mono ?_
  rintro e wy0 ⟨y0, yf0, rfl, yr0, yg0, hb⟩
  replace r_G := r_G.below hb
  replace X0 := cells_later X0 hlX0 hb
  replace ZS := cells_later ZS hlZS hb
  replace ZT0 := cells_later ZT0 hlZT0 hb
  replace ZG := cells_later ZG hlZG hb
  replace r_S := r_S.below hb
  replace fr_S := fr_S.below hb
  replace hB := hB.trans (hb.mono hz0)
  have hzn := hb.size
  replace hlX0 := Nat.lt_of_lt_of_le hlX0 hzn
  replace hlZS := Nat.lt_of_lt_of_le hlZS hzn
  replace hlZT0 := Nat.lt_of_lt_of_le hlZT0 hzn
  replace hlZG := Nat.lt_of_lt_of_le hlZG hzn
  replace hh_S := Nat.le_trans hh_S hzn
  replace hz0 := Nat.le_trans hz0 hzn
  clear hb hzn
  go_wp2_with fail
  refine (stackPush_any x0 _ _ _ hbig0 (by exact yr0)).mono ?_
  rintro e wH ⟨vH, f_H, rfl, r_H, fr_H, hb⟩
  replace r_G := r_G.below hb
  replace X0 := cells_later X0 hlX0 hb
  replace ZS := cells_later ZS hlZS hb
  replace ZT0 := cells_later ZT0 hlZT0 hb
  replace ZG := cells_later ZG hlZG hb
  replace r_S := r_S.below hb
  replace fr_S := fr_S.below hb
  replace hB := hB.trans (hb.mono hz0)
  have hzn := hb.size
  replace hlX0 := Nat.lt_of_lt_of_le hlX0 hzn
  replace hlZS := Nat.lt_of_lt_of_le hlZS hzn
  replace hlZT0 := Nat.lt_of_lt_of_le hlZT0 hzn
  replace hlZG := Nat.lt_of_lt_of_le hlZG hzn
  replace hh_S := Nat.le_trans hh_S hzn
  replace hz0 := Nat.le_trans hz0 hzn
  clear hb hzn
  have r_H' := r_H
  obtain ⟨a0H, c0H, f0H, a1H, c1H, f1H, rfl, _, _, _⟩ := Stk.open r_H'
  have ZH := cell_new wH #[.slice a0H ((Stk.push x0).1).sig.syms.length c0H, .slice a1H ((Stk.push x0).1).levels.length c1H] 34
  have hb := below_alloc wH (.cells #[.slice a0H ((Stk.push x0).1).sig.syms.length c0H, .slice a1H ((Stk.push x0).1).levels.length c1H] 34)
  have hzz : (wH.alloc (.cells #[.slice a0H ((Stk.push x0).1).sig.syms.length c0H, .slice a1H ((Stk.push x0).1).levels.length c1H] 34)).heap.size = wH.heap.size + 1 := by simp
  replace r_H := r_H.below hb
  replace r_G := r_G.below hb
  replace X0 := cells_later X0 hlX0 hb
  replace ZS := cells_later ZS hlZS hb
  replace ZT0 := cells_later ZT0 hlZT0 hb
  replace ZG := cells_later ZG hlZG hb
  replace r_S := r_S.below hb
  replace fr_S := fr_S.below hb
  replace hB := hB.trans (hb.mono hz0)
  have hzn := hb.size
  replace hlX0 := Nat.lt_of_lt_of_le hlX0 hzn
  replace hlZS := Nat.lt_of_lt_of_le hlZS hzn
  replace hlZT0 := Nat.lt_of_lt_of_le hlZT0 hzn
  replace hlZG := Nat.lt_of_lt_of_le hlZG hzn
  replace hh_S := Nat.le_trans hh_S hzn
  replace hz0 := Nat.le_trans hz0 hzn
  clear hb hzn
  have hlZH : wH.heap.size < (wH.alloc (.cells #[.slice a0H ((Stk.push x0).1).sig.syms.length c0H, .slice a1H ((Stk.push x0).1).levels.length c1H] 34)).heap.size := by simp
  go_wp2_with fail
  refine (eqStack_x ((Stk.push x0).1) _ _ _ _ _ (by exact r_H) (by exact r_S)).mono ?_
  rintro e we4 ⟨rfl, hb⟩
  replace r_G := r_G.below hb
  replace X0 := cells_later X0 hlX0 hb
  replace ZS := cells_later ZS hlZS hb
  replace ZT0 := cells_later ZT0 hlZT0 hb
  replace ZG := cells_later ZG hlZG hb
  replace ZH := cells_later ZH hlZH hb
  replace r_S := r_S.below hb
  replace fr_S := fr_S.below hb
  replace hB := hB.trans (hb.mono hz0)
  have hzn := hb.size
  replace hlX0 := Nat.lt_of_lt_of_le hlX0 hzn
  replace hlZS := Nat.lt_of_lt_of_le hlZS hzn
  replace hlZT0 := Nat.lt_of_lt_of_le hlZT0 hzn
  replace hlZG := Nat.lt_of_lt_of_le hlZG hzn
  replace hlZH := Nat.lt_of_lt_of_le hlZH hzn
  replace hh_S := Nat.le_trans hh_S hzn
  replace hz0 := Nat.le_trans hz0 hzn
  clear hb hzn
  go_wp2_with fail
  refine (heldStack_x ((Stk.push x0).1) _ _ _ _ _ 1 _ (by omega) (by omega) (by exact r_G)).mono ?_
  rintro e wh5 ⟨rfl, hb⟩
  replace r_G := r_G.below hb
  replace X0 := cells_later X0 hlX0 hb
  replace ZS := cells_later ZS hlZS hb
  replace ZT0 := cells_later ZT0 hlZT0 hb
  replace ZG := cells_later ZG hlZG hb
  replace ZH := cells_later ZH hlZH hb
  replace r_S := r_S.below hb
  replace fr_S := fr_S.below hb
  replace hB := hB.trans (hb.mono hz0)
  have hzn := hb.size
  replace hlX0 := Nat.lt_of_lt_of_le hlX0 hzn
  replace hlZS := Nat.lt_of_lt_of_le hlZS hzn
  replace hlZT0 := Nat.lt_of_lt_of_le hlZT0 hzn
  replace hlZG := Nat.lt_of_lt_of_le hlZG hzn
  replace hlZH := Nat.lt_of_lt_of_le hlZH hzn
  replace hh_S := Nat.le_trans hh_S hzn
  replace hz0 := Nat.le_trans hz0 hzn
  clear hb hzn
  have hneg : decide (((1 + cntT ((Stk.push x0).1).cd : Int)) < 0) = false := by simp; omega
  have hne : ((1 + cntT ((Stk.push x0).1).cd : Int) != (1 + cntT ((Stk.push x0).1).cd : Int)) = false := by simp
  go_wp2_with fail
  clear hneg hne
  go_ret
  exact ⟨rfl, hB⟩
end Go.Proofs.YteclckgihmaebaaGreat
