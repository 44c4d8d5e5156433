/- A new stack: both sides. -/
import Derived.Test.YtaogaddgfllkpaaStackN
import Derived.Test.YtaogaddgfllkpaaLitT
namespace Go.Proofs.Ytaogaddgfllkpaa
open Go Go.RowKit
set_option linter.unusedVariables false
set_option linter.unusedSimpArgs false

def stkNew (s : Sg) : Stk := if s.okB = true then ⟨s, [[]]⟩ else ⟨⟨[]⟩, []⟩
theorem stkNew_no {s : Sg} (h : s.okB = false) : stkNew s = ⟨⟨[]⟩, []⟩ := by unfold stkNew; rw [h]; rfl
theorem stkNew_yes {s : Sg} (h : s.okB = true) : stkNew s = ⟨s, [[]]⟩ := if_pos h
theorem heap_at (w : World) (o : Obj) (b : Nat) (hb : b = w.heap.size) : (w.alloc o).heap[b]? = some o := by
  subst hb
  show (w.heap.push _)[_]? = _
  simp
theorem stk_zero (w : World) : RdVs w (Stk.mk ⟨[]⟩ []).cd [.slice none 0 0, .slice none 0 0] [] := by
  have h1 := RdVs.single (nil_rd w Sy.cd)
  have h2 := RdVs.single (nil_rd w fmsCd)
  exact h1.app h2

set_option maxHeartbeats 1000000 in
theorem stackNew_any (s : Sg) (vs : List Value) (f : List Nat) (w : World) (hbig : wtV s.cd ≤ 1048576) (hv : RdVs w s.cd vs f) :
    Calls Try.prog 55 #[.agg vs.toArray] w (ToOutV (stkNew s).cd w) := by
  obtain ⟨a0, c0, f0, rfl, _, m0⟩ := Sg.open hv
  go_enter Try.func55, Try.ntmps55
  go_wp2_with fail
  refine (sigOk_any s _ _ _ (by exact hv.below (((Below.refl _ _).alloc (Nat.le_refl _) _).alloc (by simp) _))).mono ?_
  rintro e w1 ⟨rfl, hb⟩
  have hbb := below_size (n := w.heap.size + 1 + 1) hb (by simp)
  obtain ⟨hx, hy, hz, hB⟩ := box2 (w := w) (wr := w1) (cs := #[.slice a0 s.syms.length c0]) (ds := #[.slice none 0 0, .slice none 0 0]) (T := 77) (U := 80) hbb
  have hf := fun j => (box2_free hbb j).2
  clear hb hbb
  have x0 := hx 0
  have y0 := hy 0
  have y1 := hy 1
  have f0' := hf 0
  have f1' := hf 1
  simp only [List.getElem?_toArray, List.getElem?_cons_zero, List.getElem?_cons_succ] at x0 y0 y1
  cases hk : s.okB
  · have HN := Lib.hid (stkNew_no hk)
    clear hk
    have hres := cells_sets (b := w.heap.size + 1) [(0, .slice none 0 0), (1, .slice none 0 0)] hy (by simp)
    have r0 := hres 0
    have r1 := hres 1
    simp only [setAt, updAll, List.set_cons_zero, List.set_cons_succ, List.getElem?_toArray, List.getElem?_cons_zero, List.getElem?_cons_succ] at r0 r1
    clear hx hy hres hf
    go_wp2_with fail
    refine bodyPost_ret (v := .agg #[.slice none 0 0, .slice none 0 0]) (by simp [results, Try.results55, go_sem, r0, r1]) rfl ?_
    exact ⟨[.slice none 0 0, .slice none 0 0], [], rfl, by rw [HN.out]; exact stk_zero _, Fresh.nil _ _, (hB.setCell (by simp) _).setCell (by simp) _⟩
  have HN := Lib.hid (stkNew_yes hk)
  clear hk
  go_wp2_with fail
  refine (sigOwn_any s _ _ _ hbig (by exact hv.below hB)).mono ?_
  rintro e w2 ⟨us, fs, rfl, hr, hfr, hb2⟩
  obtain ⟨a1, c1, f1, rfl, _, n0⟩ := Sg.open hr
  have hz2 := hb2.size
  have hB2 := hB.trans (hb2.mono hB.size)

  have hal : Below w2.heap.size w2 (w2.alloc (.cells #[.slice none 0 0] 25)) := below_alloc _ _
  have hz3 := hal.size
  have hBB : Below w.heap.size w (w2.alloc (.cells #[.slice none 0 0] 25)) := hB2.trans (hal.mono hB2.size)
  have q0 := cell_keep y0 (hb2.trans (hal.mono hz2))
  have q1 := cell_keep y1 (hb2.trans (hal.mono hz2))
  have hyy : ∀ j, (w2.alloc (.cells #[.slice none 0 0] 25)).cell? ⟨w.heap.size + 1, j, none⟩ = (#[.slice none 0 0, .slice none 0 0] : Array Value)[j]? := cells_later hy (by omega) (hb2.trans (hal.mono hz2))
  have hff : ∀ j, (w2.alloc (.cells #[.slice none 0 0] 25)).frozen? ⟨w.heap.size + 1, j, none⟩ = false := free_later hf (by omega) (hb2.trans (hal.mono hz2))
  have g0 := hff 0
  have g1 := hff 1
  have hres := cells_sets (b := w.heap.size + 1) [(0, .slice a1 s.syms.length c1), (1, .slice (some ⟨w2.heap.size, 0, none⟩) 1 1)] hyy (by simp)
  have r0 := hres 0
  have r1 := hres 1
  simp only [setAt, updAll, List.set_cons_zero, List.set_cons_succ, List.getElem?_toArray, List.getElem?_cons_zero, List.getElem?_cons_succ] at r0 r1
  have hrow : RdVs (w2.alloc (.cells #[.slice none 0 0] 25)) [.sl (([[]] : List (List Fm)).map fmsCd)] [.slice (some ⟨w2.heap.size, 0, none⟩) 1 1] [w2.heap.size] := RdVs.single (by
    refine rd_row (k := 1) (vs := [.slice none 0 0]) (f := []) ?_ ?_ (by simp) rfl (by simp) (by omega) (by simp [fmsCd]) (by simp)
    · intro j u hu
      have := cells_new (w2) [.slice none 0 0] 25 j u hu
      simpa using hu
    · exact RdVs.single (by simp only [Rd]; exact ⟨none, 0, rfl, by simp, by simp [maxLen], by simp⟩))
  have hr3 := hr.below hal
  have hfin : RdVs (w2.alloc (.cells #[.slice none 0 0] 25)) (stkNew s).cd ([.slice a1 s.syms.length c1] ++ [.slice (some ⟨w2.heap.size, 0, none⟩) 1 1]) (fs ++ [w2.heap.size]) := by rw [HN.out]; exact hr3.app hrow
  have hfs : Fresh w.heap.size (w2.alloc (.cells #[.slice none 0 0] 25)) (fs ++ [w2.heap.size]) := by
    have h1 := (hfr.mono (show w.heap.size ≤ w1.heap.size from hB.size)).below hal
    refine Fresh.app h1 (fun b hb => hfr.lt b hb) hB2.size ⟨by simp, ?_⟩
    intro b hb
    obtain rfl := List.mem_singleton.1 hb
    exact ⟨by simp, _, _, heap_at _ _ _ (by simp)⟩
  have hfn : ∀ b ∈ fs ++ [w2.heap.size], b ≠ w.heap.size + 1 := fun b hb => by
    rcases List.mem_append.1 hb with h | h
    · have := (hfr.2 b h).1; omega
    · obtain rfl := List.mem_singleton.1 h; omega
  clear hx hy hf hyy hff hres hrow hr3 hr
  go_wp2_with fail
  refine bodyPost_ret (v := .agg #[.slice a1 s.syms.length c1, .slice (some ⟨w2.heap.size, 0, none⟩) 1 1]) (by simp [results, Try.results55, go_sem, r0, r1]) rfl ?_
  have hsm := sameOn_set2 (w := w2.alloc (.cells #[.slice none 0 0] 25)) (i := 0) (j := 1) (u := .slice a1 s.syms.length c1) (v := .slice (some ⟨w2.heap.size, 0, none⟩) 1 1) (fp := fs ++ [w2.heap.size]) (b := w.heap.size + 1) hfn
  exact ⟨[.slice a1 s.syms.length c1, .slice (some ⟨w2.heap.size, 0, none⟩) 1 1], fs ++ [w2.heap.size], rfl, hfin.same _ hsm, hfs.same hsm, (hBB.setCell (by simp) _).setCell (by simp) _⟩

set_option maxHeartbeats 1000000 in
theorem stackNewS_any (s : Sg) (vs : List Value) (f : List Nat) (w : World) (hbig : wtV s.cd ≤ 1048576) (hv : RdVs w s.cd vs f) :
    Calls Try.prog 54 #[.agg vs.toArray] w (ToOutV (stkNew s).cd w) := by
  obtain ⟨a0, c0, f0, rfl, _, m0⟩ := Sg.open hv
  go_enter Try.func54, Try.ntmps54
  go_wp2_with fail
  refine (sigOkS_any s _ _ _ (by exact hv.below (((Below.refl _ _).alloc (Nat.le_refl _) _).alloc (by simp) _))).mono ?_
  rintro e w1 ⟨rfl, hb⟩
  have hbb := below_size (n := w.heap.size + 1 + 1) hb (by simp)
  obtain ⟨hx, hy, hz, hB⟩ := box2 (w := w) (wr := w1) (cs := #[.slice a0 s.syms.length c0]) (ds := #[.slice none 0 0, .slice none 0 0]) (T := 77) (U := 80) hbb
  have hf := fun j => (box2_free hbb j).2
  clear hb hbb
  have x0 := hx 0
  have y0 := hy 0
  have y1 := hy 1
  have f0' := hf 0
  have f1' := hf 1
  simp only [List.getElem?_toArray, List.getElem?_cons_zero, List.getElem?_cons_succ] at x0 y0 y1
  cases hk : s.okB
  · have HN := Lib.hid (stkNew_no hk)
    clear hk
    have hres := cells_sets (b := w.heap.size + 1) [(0, .slice none 0 0), (1, .slice none 0 0)] hy (by simp)
    have r0 := hres 0
    have r1 := hres 1
    simp only [setAt, updAll, List.set_cons_zero, List.set_cons_succ, List.getElem?_toArray, List.getElem?_cons_zero, List.getElem?_cons_succ] at r0 r1
    clear hx hy hres hf
    go_wp2_with fail
    refine bodyPost_ret (v := .agg #[.slice none 0 0, .slice none 0 0]) (by simp [results, Try.results54, go_sem, r0, r1]) rfl ?_
    exact ⟨[.slice none 0 0, .slice none 0 0], [], rfl, by rw [HN.out]; exact stk_zero _, Fresh.nil _ _, (hB.setCell (by simp) _).setCell (by simp) _⟩
  have HN := Lib.hid (stkNew_yes hk)
  clear hk
  go_wp2_with fail
  refine (l14Sig_any s _ _ _ hbig (by exact hv.below hB)).mono ?_
  rintro e w2 ⟨us, fs, rfl, hr, hfr, hb2⟩
  obtain ⟨a1, c1, f1, rfl, _, n0⟩ := Sg.open hr
  have hz2 := hb2.size
  have hB2 := hB.trans (hb2.mono hB.size)

  have hal : Below w2.heap.size w2 ((w2.alloc (.cells #[] 105)).alloc (.cells #[.slice (some ⟨w2.heap.size, 0, none⟩) 0 0] 25)) := (below_alloc _ _).alloc (by simp) _
  have hz3 := hal.size
  have hBB : Below w.heap.size w ((w2.alloc (.cells #[] 105)).alloc (.cells #[.slice (some ⟨w2.heap.size, 0, none⟩) 0 0] 25)) := hB2.trans (hal.mono hB2.size)
  have q0 := cell_keep y0 (hb2.trans (hal.mono hz2))
  have q1 := cell_keep y1 (hb2.trans (hal.mono hz2))
  have hyy : ∀ j, ((w2.alloc (.cells #[] 105)).alloc (.cells #[.slice (some ⟨w2.heap.size, 0, none⟩) 0 0] 25)).cell? ⟨w.heap.size + 1, j, none⟩ = (#[.slice none 0 0, .slice none 0 0] : Array Value)[j]? := cells_later hy (by omega) (hb2.trans (hal.mono hz2))
  have hff : ∀ j, ((w2.alloc (.cells #[] 105)).alloc (.cells #[.slice (some ⟨w2.heap.size, 0, none⟩) 0 0] 25)).frozen? ⟨w.heap.size + 1, j, none⟩ = false := free_later hf (by omega) (hb2.trans (hal.mono hz2))
  have g0 := hff 0
  have g1 := hff 1
  have hres := cells_sets (b := w.heap.size + 1) [(0, .slice a1 s.syms.length c1), (1, .slice (some ⟨w2.heap.size + 1, 0, none⟩) 1 1)] hyy (by simp)
  have r0 := hres 0
  have r1 := hres 1
  simp only [setAt, updAll, List.set_cons_zero, List.set_cons_succ, List.getElem?_toArray, List.getElem?_cons_zero, List.getElem?_cons_succ] at r0 r1
  have hrow : RdVs ((w2.alloc (.cells #[] 105)).alloc (.cells #[.slice (some ⟨w2.heap.size, 0, none⟩) 0 0] 25)) [.sl (([[]] : List (List Fm)).map fmsCd)] [.slice (some ⟨w2.heap.size + 1, 0, none⟩) 1 1] [w2.heap.size + 1] := RdVs.single (by
    refine rd_row (k := 1) (vs := [.slice (some ⟨w2.heap.size, 0, none⟩) 0 0]) (f := []) ?_ ?_ (by simp) rfl (by simp) (by omega) (by simp [fmsCd]) (by simp)
    · intro j u hu
      have := cells_new (w2.alloc (.cells #[] 105)) [.slice (some ⟨w2.heap.size, 0, none⟩) 0 0] 25 j u hu
      simpa using hu
    · exact RdVs.single (by simp only [Rd]; exact ⟨some ⟨w2.heap.size, 0, none⟩, 0, rfl, by simp, by simp [maxLen], by simp⟩))
  have hr3 := hr.below hal
  have hfin : RdVs ((w2.alloc (.cells #[] 105)).alloc (.cells #[.slice (some ⟨w2.heap.size, 0, none⟩) 0 0] 25)) (stkNew s).cd ([.slice a1 s.syms.length c1] ++ [.slice (some ⟨w2.heap.size + 1, 0, none⟩) 1 1]) (fs ++ [w2.heap.size + 1]) := by rw [HN.out]; exact hr3.app hrow
  have hfs : Fresh w.heap.size ((w2.alloc (.cells #[] 105)).alloc (.cells #[.slice (some ⟨w2.heap.size, 0, none⟩) 0 0] 25)) (fs ++ [w2.heap.size + 1]) := by
    have h1 := (hfr.mono (show w.heap.size ≤ w1.heap.size from hB.size)).below hal
    refine Fresh.app h1 (fun b hb => hfr.lt b hb) hB2.size ⟨by simp, ?_⟩
    intro b hb
    obtain rfl := List.mem_singleton.1 hb
    exact ⟨by simp, _, _, heap_at _ _ _ (by simp)⟩
  have hfn : ∀ b ∈ fs ++ [w2.heap.size + 1], b ≠ w.heap.size + 1 := fun b hb => by
    rcases List.mem_append.1 hb with h | h
    · have := (hfr.2 b h).1; omega
    · obtain rfl := List.mem_singleton.1 h; omega
  clear hx hy hf hyy hff hres hrow hr3 hr
  go_wp2_with fail
  refine bodyPost_ret (v := .agg #[.slice a1 s.syms.length c1, .slice (some ⟨w2.heap.size + 1, 0, none⟩) 1 1]) (by simp [results, Try.results54, go_sem, r0, r1]) rfl ?_
  have hsm := sameOn_set2 (w := (w2.alloc (.cells #[] 105)).alloc (.cells #[.slice (some ⟨w2.heap.size, 0, none⟩) 0 0] 25)) (i := 0) (j := 1) (u := .slice a1 s.syms.length c1) (v := .slice (some ⟨w2.heap.size + 1, 0, none⟩) 1 1) (fp := fs ++ [w2.heap.size + 1]) (b := w.heap.size + 1) hfn
  exact ⟨[.slice a1 s.syms.length c1, .slice (some ⟨w2.heap.size + 1, 0, none⟩) 1 1], fs ++ [w2.heap.size + 1], rfl, hfin.same _ hsm, hfs.same hsm, (hBB.setCell (by simp) _).setCell (by simp) _⟩

end Go.Proofs.Ytaogaddgfllkpaa
