/- The constraint of a sum of numbers, and of two that are one: the reference's l8Lin, l8Diff. -/
import Derived.RegionTactic
import Derived.Test.YteclieenkephfaaGreatLinR
namespace Go.Proofs.YteclieenkephfaaGreat
open Go Go.RowKit
set_option linter.unusedVariables false
set_option linter.unusedSimpArgs false

def linS (nums : List Tm) : List Tm → List Int → List Int → List Int
  | t :: ts, x :: xs, c => linS nums ts xs (c.set (Tm.pos nums t) x)
  | _, _, c => c
def LinGs (nums ts : List Tm) (xs R : List Int) (k : Nat) (c : List Int) : Prop := linS nums (ts.drop k) (xs.drop k) c = R
theorem LinGs.start {nums ts : List Tm} {xs c : List Int} : LinGs nums ts xs (linS nums ts xs c) 0 c := rfl
theorem LinGs.stop {nums ts : List Tm} {xs R c : List Int} {k : Nat} (h : LinGs nums ts xs R k c) (hk : ts.length ≤ k) : R = c := by
  unfold LinGs at h
  rw [List.drop_eq_nil_of_le hk] at h
  simpa [linS] using h.symm
theorem LinGs.step {nums ts : List Tm} {xs R c : List Int} {k : Nat} (h : LinGs nums ts xs R k c) (hk : k < ts.length) (hx : k < xs.length) : LinGs nums ts xs R (k + 1) (c.set (Tm.pos nums ts[k]) xs[k]) := by
  unfold LinGs at h
  rw [List.drop_eq_getElem_cons hk, List.drop_eq_getElem_cons hx, linS] at h
  exact h
/-- Where the terms stand once, to set is to add. -/
theorem linS_eq {nums : List Tm} : ∀ (ts : List Tm) (xs c : List Int), ts.Nodup → nums.Nodup → (∀ t ∈ ts, t ∈ nums) → (∀ t ∈ ts, c.getD (Tm.pos nums t) 0 = 0) → nums.length ≤ c.length → linS nums ts xs c = linC nums ts xs c
  | [], xs, c, _, _, _, _, _ => by cases xs <;> rfl
  | t :: ts, [], c, _, _, _, _, _ => rfl
  | t :: ts, x :: xs, c, hn, hnn, hin, h0, hl => by
    have hp := (Tm.pos_yes (hin t (by simp))).1
    have e : c.set (Tm.pos nums t) x = addAt c (Tm.pos nums t) x := by unfold addAt; rw [h0 t (by simp)]; simp
    unfold linS linC
    rw [← e]
    refine linS_eq ts xs _ (List.nodup_cons.1 hn).2 hnn (fun u hu => hin u (by simp [hu])) (fun u hu => ?_) (by rw [List.length_set]; exact hl)
    have hne : Tm.pos nums t ≠ Tm.pos nums u := fun e => by
      have h1 := (Tm.pos_yes (hin t (by simp))).2
      have h2 := (Tm.pos_yes (hin u (by simp [hu]))).2
      rw [e, h2] at h1
      have := Option.some.inj h1
      subst this
      exact (List.nodup_cons.1 hn).1 hu
    rw [List.getD_eq_getElem?_getD, List.getElem?_set_ne hne, ← List.getD_eq_getElem?_getD]
    exact h0 u (by simp [hu])
theorem irow_new (w : World) (base : Nat) (hb : base ≤ w.heap.size) : IRow (w.alloc (.cells #[.int .i64 0, .int .i64 0, .int .i64 0, .int .i64 0] 3)) base (.slice (some ⟨w.heap.size, 0, none⟩) 4 4) [0, 0, 0, 0] :=
  IRow.mk ⟨by simp, .inr ⟨w.heap.size, 4, #[.int .i64 0, .int .i64 0, .int .i64 0, .int .i64 0], rfl, hb, heap_alloc_new w _, by simp, by simp [maxLen], by simp, by simp⟩⟩ (by intro x hx; simp at hx; subst hx; constructor <;> omega)
theorem tmr_kid' {w : World} {t : Tm} {v : Value} (h : TmR w t v) : ∃ a c, v = .agg #[.string t.name, .slice a t.kids.length c] ∧ TmsR w t.kids (.slice a t.kids.length c) := by
  obtain ⟨kv, rfl, _, hk⟩ := h
  obtain ⟨a, c, rfl, _, _⟩ := hk.form
  exact ⟨a, c, rfl, hk⟩
set_option maxHeartbeats 4000000 in
theorem l8Diff_any (nums : List Tm) (a b : Tm) (nv av bv : Value) (w : World) (hnd : Hid nums.Nodup) (hnl : nums.length ≤ 4) (ha : a ∈ nums) (hb : b ∈ nums) (hnv : TmsR w nums nv) (hav : TmR w a av) (hbv : TmR w b bv) :
    Calls Tryz.prog 41 #[nv, av, bv] w (ToOutV (Ln.mk (linC nums [a, b] [1, -1] [0, 0, 0, 0]) 0 false).cd w) := by
  obtain ⟨na, nc, rfl, _, _⟩ := hnv.form
  obtain ⟨xa, xc, rfl, hxk⟩ := tmr_kid' hav
  obtain ⟨ya, yc, rfl, hyk⟩ := tmr_kid' hbv
  have hpa := (Tm.pos_yes ha).1
  have hpb := (Tm.pos_yes hb).1
  have HE : Hid (linC nums [a, b] [1, -1] [0, 0, 0, 0] = addAt (addAt [0, 0, 0, 0] (Tm.pos nums a) 1) (Tm.pos nums b) (-1)) := Lib.hid rfl
  obtain ⟨p, hp⟩ : ∃ p, p = Tm.pos nums a := ⟨_, rfl⟩
  obtain ⟨q, hq⟩ : ∃ q, q = Tm.pos nums b := ⟨_, rfl⟩
  have HP := Lib.hid hp
  have HQ := Lib.hid hq
  rw [← hp] at hpa HE
  rw [← hq] at hpb HE
  clear hp hq
  go_enter Tryz.func41, Tryz.ntmps41
  go_wp2_with (at_make; refine wpList_mk slTyIntS _ rfl _ _ rfl (w.heap.size + 1 + 1 + 1) zIntS (fun w => zIntS_rd w) 4 rfl rfl (by omega) (by omega) (by simp) ?_)
  intro w1 hown0 hbl1 hz1
  have hz1 : w.heap.size + 1 + 1 + 1 < w1.heap.size := by simpa using hz1
  try simp only [World.size_alloc]
  have hbl2 : Below (w.heap.size + 1 + 1 + 1) (((w.alloc (.cells #[.string a.name, .slice xa a.kids.length xc] 60)).alloc (.cells #[.string b.name, .slice ya b.kids.length yc] 60)).alloc (.cells #[.slice none 0 0, .int .i64 0, .bool false] 69)) w1 := by simpa using hbl1
  obtain ⟨X, Y, Z, _, zf, hz3, hBw⟩ := box3 hbl2
  have hrow0 : IRow w1 (w.heap.size + 1 + 1 + 1) (.slice (some ⟨w.heap.size + 1 + 1 + 1, 0, none⟩) 4 4) [0, 0, 0, 0] := hown0
  have X0 := X 0
  have X1 := X 1
  have Y0 := Y 0
  have Y1 := Y 1
  simp only [List.getElem?_toArray, List.getElem?_cons_zero, List.getElem?_cons_succ] at X0 X1 Y0 Y1
  go_upto_region 2 with fail
  have hU := below_alloc w1 (.cells #[.slice (some ⟨w.heap.size + 1 + 1 + 1, 0, none⟩) 4 4, .int .i64 0, .bool false] 69)
  have hc := cell_new w1 #[.slice (some ⟨w.heap.size + 1 + 1 + 1, 0, none⟩) 4 4, .int .i64 0, .bool false] 69
  have st0 : LnVar (w1.alloc (.cells #[.slice (some ⟨w.heap.size + 1 + 1 + 1, 0, none⟩) 4 4, .int .i64 0, .bool false] 69)) w1.heap.size (w.heap.size + 1 + 1 + 1) [0, 0, 0, 0] 0 false (.slice (some ⟨w.heap.size + 1 + 1 + 1, 0, none⟩) 4 4) :=
    ⟨hc 0, hc 1, hc 2, fun j => free_new _ _ _ _, hrow0.below hU, by simp [Value.ownBlock]; omega, by constructor <;> omega⟩
  have X0 := cell_keep X0 hU
  have X1 := cell_keep X1 hU
  have Y0 := cell_keep Y0 hU
  have Y1 := cell_keep Y1 hU
  have Z2 := cells_later Z (by omega) hU
  have zf2 := free_later zf (by omega) hU
  have hBW := hBw.trans (hU.mono hBw.size)
  have hzW := hU.size
  clear hc hrow0 hown0 hbl1 hbl2 X Y Z zf hBw hU
  generalize hW : w1.alloc (.cells #[.slice (some ⟨w.heap.size + 1 + 1 + 1, 0, none⟩) 4 4, .int .i64 0, .bool false] 69) = W at *
  clear hW
  go_wp2_with fail
  refine (l4Place_nd nums a _ _ _ hnd.out ha (hnv.below hBW) (hav.below hBW)).mono ?_
  rintro e w2 ⟨rfl, hb2⟩
  rw [← HP.out]
  have st2 := st0.below hb2
  have Y0 := cell_keep Y0 hb2
  have Y1 := cell_keep Y1 hb2
  have Z2 := cells_later Z2 (by omega) hb2
  have zf2 := free_later zf2 (by omega) hb2
  have hB2 := hBW.trans (hb2.mono hBW.size)
  have hz2 := hb2.size
  clear st0 hb2 X0 X1
  go_wp2_with fail
  refine (l4Place_nd nums b _ _ _ hnd.out hb (hnv.below hB2) (hbv.below hB2)).mono ?_
  rintro e w3 ⟨rfl, hb3⟩
  rw [← HQ.out]
  have st3 := st2.below hb3
  have Z3 := cells_later Z2 (by omega) hb3
  have zf3 := free_later zf2 (by omega) hb3
  have hB3 := hB2.trans (hb3.mono hB2.size)
  have hz4 := hb3.size
  clear st2 hb3 Y0 Y1 Z2 zf2
  obtain ⟨c0, hc0⟩ : ∃ c0 : List Int, c0 = [0, 0, 0, 0] := ⟨_, rfl⟩
  have hfo0 : Four c0 0 := hc0 ▸ Four.zero
  rw [← hc0] at st3 HE
  have HC0 := Lib.hid hc0
  clear hc0
  have hF0 := hfo0.at (p := p) (by rw [hfo0.1]; omega)
  have hpc0 : p < c0.length := by rw [hfo0.1]; omega
  have y0 := st3.c0
  have cp0 := (IRow.cell st3.row (k := p) hpc0).1
  have cf0 := IRow.free st3.row p
  have hpi0 : ((p : Nat) : Int) < 4 := by omega
  have hwx0 : IntKind.i64.wrap (c0[p] + 1) = c0[p] + 1 := IntWalk.i64_in _ (by omega)
  have hi0 : I64 (c0[p] + 1) := by constructor <;> omega
  have hgz0 : w.heap.size + 1 + 1 + 1 < w3.heap.size := by omega
  go_wp2_with fail
  go_region
  clear hwx0
  have st4 := (st3.one p hi0).below (below_drew _)
  have hB4 := (hB3.setCell (p := ⟨w.heap.size + 1 + 1 + 1, p, none⟩) (by simp only; omega) (.int .i64 (c0[p] + 1))).drew
  have hfo1 := hfo0.set (p := p) (x := c0[p] + 1) (by omega)
  have HE1 := Lib.hid (addAt_eq (x := 1) hpc0)
  have hq4 : w3.heap.size = (w3.setCell ⟨w.heap.size + 1 + 1 + 1, p, none⟩ (.int .i64 (c0[p] + 1))).drew.heap.size := by simp [World.setCell]
  have Z4 : ∀ j, (w3.setCell ⟨w.heap.size + 1 + 1 + 1, p, none⟩ (.int .i64 (c0[p] + 1))).drew.cell? ⟨w.heap.size + 1 + 1, j, none⟩ = (#[.slice none 0 0, .int .i64 0, .bool false] : Array Value)[j]? := fun j => by
    show (w3.setCell _ _).cell? _ = _
    rw [World.cell?_setCell_other _ _ _ _ (by simp)]; exact Z3 j
  have zf4 : ∀ j, (w3.setCell ⟨w.heap.size + 1 + 1 + 1, p, none⟩ (.int .i64 (c0[p] + 1))).drew.frozen? ⟨w.heap.size + 1 + 1, j, none⟩ = false := fun j => by
    show (w3.setCell _ _).frozen? _ = _
    rw [World.frozen?_setCell]; exact zf3 j
  obtain ⟨c1, hc1⟩ : ∃ c1, c1 = c0.set p (c0[p] + 1) := ⟨_, rfl⟩
  rw [← hc1] at st4 hfo1 HE1
  clear hc1 st3 cp0 cf0 y0 hB3 Z3 zf3 hF0
  generalize (w3.setCell ⟨w.heap.size + 1 + 1 + 1, p, none⟩ (.int .i64 (c0[p] + 1))).drew = w4 at *
  have hF1 := hfo1.at (p := q) (by rw [hfo1.1]; omega)
  have hpc1 : q < c1.length := by rw [hfo1.1]; omega
  have y1 := st4.c0
  have cp1 := (IRow.cell st4.row (k := q) hpc1).1
  have cf1 := IRow.free st4.row q
  have hpi1 : ((q : Nat) : Int) < 4 := by omega
  have hwx1 : IntKind.i64.wrap (c1[q] - 1) = c1[q] - 1 := IntWalk.i64_in _ (by omega)
  have hi1 : I64 (c1[q] - 1) := by constructor <;> omega
  have hgz1 : w.heap.size + 1 + 1 + 1 < w4.heap.size := by omega
  go_wp2_with fail
  go_region
  clear hwx1
  have st5 := (st4.one q hi1).below (below_drew _)
  have hB5 := (hB4.setCell (p := ⟨w.heap.size + 1 + 1 + 1, q, none⟩) (by simp only; omega) (.int .i64 (c1[q] - 1))).drew
  have HE2 : Hid (addAt c1 q (-1) = c1.set q (c1[q] - 1)) := Lib.hid (by rw [addAt_eq hpc1]; rfl)
  have Z5 : ∀ j, (w4.setCell ⟨w.heap.size + 1 + 1 + 1, q, none⟩ (.int .i64 (c1[q] - 1))).drew.cell? ⟨w.heap.size + 1 + 1, j, none⟩ = (#[.slice none 0 0, .int .i64 0, .bool false] : Array Value)[j]? := fun j => by
    show (w4.setCell _ _).cell? _ = _
    rw [World.cell?_setCell_other _ _ _ _ (by simp)]; exact Z4 j
  have zf5 : ∀ j, (w4.setCell ⟨w.heap.size + 1 + 1 + 1, q, none⟩ (.int .i64 (c1[q] - 1))).drew.frozen? ⟨w.heap.size + 1 + 1, j, none⟩ = false := fun j => by
    show (w4.setCell _ _).frozen? _ = _
    rw [World.frozen?_setCell]; exact zf4 j
  have hq5 : w4.heap.size = (w4.setCell ⟨w.heap.size + 1 + 1 + 1, q, none⟩ (.int .i64 (c1[q] - 1))).drew.heap.size := by simp [World.setCell]
  clear st4 cp1 cf1 y1 hB4 Z4 zf4 hF1
  generalize (w4.setCell ⟨w.heap.size + 1 + 1 + 1, q, none⟩ (.int .i64 (c1[q] - 1))).drew = w5 at *
  obtain ⟨fq, hro, hfo9⟩ := st5.out
  have hyw : ∀ j, w5.cell? ⟨w.heap.size + 1 + 1, j, none⟩ = (#[.slice none 0 0, .int .i64 0, .bool false] : Array Value)[j]? := Z5
  have hfw : ∀ j, w5.frozen? ⟨w.heap.size + 1 + 1, j, none⟩ = false := zf5
  have y0' := hyw 0
  have y1' := hyw 1
  have y2' := hyw 2
  have g0' := hfw 0
  have g1' := hfw 1
  have g2' := hfw 2
  simp only [List.getElem?_toArray, List.getElem?_cons_zero, List.getElem?_cons_succ] at y0' y1' y2'
  have s0 := st5.c0
  have s1 := st5.c1
  have s2 := st5.c2
  have hres := cells_sets (b := w.heap.size + 1 + 1) [(0, .slice (some ⟨w.heap.size + 1 + 1 + 1, 0, none⟩) 4 4), (1, .int .i64 0), (2, .bool false)] hyw (by simp)
  have r0 := hres 0
  have r1 := hres 1
  have r2 := hres 2
  simp only [setAt, updAll, List.set_cons_zero, List.set_cons_succ, List.getElem?_toArray, List.getElem?_cons_zero, List.getElem?_cons_succ] at r0 r1 r2
  have hne := hfo9.ne (b := w.heap.size + 1 + 1) (by omega)
  have hs3 := ((sameOn_set (a := ⟨w.heap.size + 1 + 1, 0, none⟩) (v := .slice (some ⟨w.heap.size + 1 + 1 + 1, 0, none⟩) 4 4) (w := w5) hne).trans (sameOn_set (a := ⟨w.heap.size + 1 + 1, 1, none⟩) (v := .int .i64 0) hne)).trans (sameOn_set (a := ⟨w.heap.size + 1 + 1, 2, none⟩) (v := .bool false) hne)
  have hro2 := hro.same _ hs3
  have hfo2 := hfo9.same hs3
  clear hres hyw hfw hs3
  go_wp2_with fail
  (try simp only [Exit.inBlock, Exit.then])
  refine bodyPost_ret (v := .agg #[.slice (some ⟨w.heap.size + 1 + 1 + 1, 0, none⟩) 4 4, .int .i64 0, .bool false]) (by simp [results, Tryz.results41, go_sem, r0, r1, r2]) rfl ?_
  exact ⟨[_, _, _], fq, rfl, by rw [HC0.out] at HE; rw [HE.out, ← HC0.out, HE1.out, HE2.out]; exact hro2, hfo2.mono (by omega), ((hB5.setCell (by simp only; omega) _).setCell (by simp only; omega) _).setCell (by simp only; omega) _⟩
end Go.Proofs.YteclieenkephfaaGreat
