/- Words and a term that are drawn: DrawTermSort. -/
import Derived.Test.YtlcfophhjflpdaaRdr7
import Derived.Test.YtlcfophhjflpdaaOpenB
namespace Go.Proofs.Ytlcfophhjflpdaa
open Go Go.RowKit
set_option linter.unusedVariables false
set_option linter.unusedSimpArgs false

def DrawnSgTm (w : World) (e : Ending) (w' : World) : Prop := ∃ (s : Sg) (t : Tm) (sa : Option Addr) (sc : Nat) (ka : Option Addr) (kc : Nat) (sf fp : List Nat), t.size ≤ 45 ∧ e = .returned (.tuple #[.agg #[.slice sa s.syms.length sc], .agg #[.string t.name, .slice ka t.kids.length kc]]) ∧ RdVs w' s.cd [.slice sa s.syms.length sc] sf ∧ t.name.size ≤ maxLen ∧ Rd w' (.sl (t.kids.map Tm.cd)) (.slice ka t.kids.length kc) fp
set_option maxRecDepth 100000 in
set_option maxHeartbeats 4000000 in
theorem drawTermSort_any (v : Value) (w : World) (hv : Byts w v) :
    Calls Try.prog 34 #[v] w fun e w' => DrawnSgTm w e w' ∧ Below w.heap.size w w' := by
  have hB0 : Below w.heap.size w ((w.alloc (.cells #[.slice none 0 0] 72)).alloc (.cells #[.string ⟨#[]⟩, .slice none 0 0] 38)) := ((Below.refl _ _).alloc (Nat.le_refl _) _).alloc (by simp) _
  go_enter Try.func34, Try.ntmps34
  go_wp2_with fail
  refine (l16Open_any v _ (by exact hv.below hB0)).mono ?_
  rintro e u1 ⟨rfl, hu1, hb1⟩
  obtain ⟨hx, hy, hz1, hB1⟩ := box2 (below_size hb1 (n := w.heap.size + 1 + 1) (by simp))
  have r0 : u1.cell? ⟨w.heap.size, 0, none⟩ = some (.slice none 0 0) := hx 0
  have r1 : u1.cell? ⟨w.heap.size + 1, 0, none⟩ = some (.string ⟨#[]⟩) := hy 0
  have r2 : u1.cell? ⟨w.heap.size + 1, 1, none⟩ = some (.slice none 0 0) := hy 1
  have rfs := box2_free (below_size hb1 (n := w.heap.size + 1 + 1) (by simp)) 0
  have rf0 := rfs.1
  have rf1 := rfs.2
  have rf2 := (box2_free (below_size hb1 (n := w.heap.size + 1 + 1) (by simp)) 1).2
  clear hx hy rfs hb1
  simp only [World.size_alloc] at hu1
  obtain ⟨rb, hrb⟩ : ∃ rb, rb = w.heap.size + 1 + 1 := ⟨_, rfl⟩
  rw [← hrb] at hu1
  simp only [World.size_alloc]
  rw [← hrb]
  have hrw1 : rb ≤ w.heap.size + 1 + 1 := by omega
  have hrw2 : w.heap.size + 1 + 1 ≤ rb := by omega
  clear hrb
  have hl1 := hu1.lt
  go_wp2_with fail
  refine (l4Sig_any rb 0 _ (by omega) hu1).mono ?_
  rintro e u2 ⟨⟨s, vs, sf, hfew, rfl, hrd, hsf⟩, hu2, ho2⟩
  obtain ⟨a0, c0, f0, rfl, rfl, m0⟩ := Sg.open hrd
  have hnr : rb ∉ sf := fun h => by have := hsf _ h; omega
  have hl2 := hu2.lt
  have hz2 := ho2.size
  have x20 := cells_new' u2 [.slice a0 s.syms.length c0] 72 0 _ rfl
  have xf20 := free_new u2 #[.slice a0 s.syms.length c0] 72 0
  have hba := below_alloc u2 (.cells #[.slice a0 s.syms.length c0] 72)
  have hsz2 : u2.heap.size + 1 ≤ (u2.alloc (.cells #[.slice a0 s.syms.length c0] 72)).heap.size := by simp
  go_wp2_with fail
  refine (l4Some_any s _ sf rb (0 + 1) _ (by omega) hfew (by exact hrd.below hba) hnr (by exact hu2.below hba)).mono ?_
  rintro e u3 ⟨⟨t, kv, fo, hszt, rfl, hnm, hownt, hfo⟩, hu3, ho3⟩
  obtain ⟨ff, hrt, hft, _⟩ := hownt.fresh hfo
  obtain ⟨ka, kc, rfl, hk1, hk2⟩ := tms_form hrt
  have hz3 := ho3.size
  have hN3 : Only [rb] u1 u3 := (ho2.trans (Only.below hba)).trans ho3
  replace x20 := ho3.cellk x20 (by omega)
  replace xf20 := ho3.free xf20 (by omega) (by omega)
  have hrd3 := (hrd.below hba).only ho3 hnr
  replace r0 := hN3.cellk r0 (by omega)
  replace r1 := hN3.cellk r1 (by omega)
  replace r2 := hN3.cellk r2 (by omega)
  replace rf0 := hN3.free rf0 (by omega) (by omega)
  replace rf1 := hN3.free rf1 (by omega) (by omega)
  replace rf2 := hN3.free rf2 (by omega) (by omega)
  have hffl := hrt.lt _
  have hffg : ∀ b ∈ ff, u2.heap.size + 1 ≤ b := fun b hb => by have := (hft.2 b hb).1; omega
  clear ho2 ho3 hrd m0 hba hft hfo hownt hu1 hu2
  have hba3 := below_alloc u3 (.cells #[.string t.name, .slice ka t.kids.length kc] 38)
  have t0 := cells_new' u3 [.string t.name, .slice ka t.kids.length kc] 38 0 _ rfl
  have t1 := cells_new' u3 [.string t.name, .slice ka t.kids.length kc] 38 1 _ rfl
  have hsz3 : u3.heap.size + 1 ≤ (u3.alloc (.cells #[.string t.name, .slice ka t.kids.length kc] 38)).heap.size := by simp
  have hz33 : u2.heap.size + 1 ≤ u3.heap.size := by omega
  go_wp2_with fail
  refine (pick_any rb (0 + 1 + 20) 12 _ (by omega) (by omega) (by omega) (by exact hu3.below hba3)).mono ?_
  rintro e u4 ⟨⟨m, hm, rfl⟩, hu4, ho4⟩
  have hz4 := ho4.size
  have hN4 : Only [rb] u3 u4 := (Only.below hba3).trans ho4
  replace t0 := ho4.cellk t0 (by omega)
  replace t1 := ho4.cellk t1 (by omega)
  replace x20 := hN4.cellk x20 (by omega)
  replace xf20 := hN4.free xf20 (by omega) (by omega)
  have hrd4 := hrd3.only hN4 hnr
  have hrt4 := hrt.only hN4 (fun h => by have := hffg _ h; omega)
  replace r0 := hN4.cellk r0 (by omega)
  replace r1 := hN4.cellk r1 (by omega)
  replace r2 := hN4.cellk r2 (by omega)
  replace rf0 := hN4.free rf0 (by omega) (by omega)
  replace rf1 := hN4.free rf1 (by omega) (by omega)
  replace rf2 := hN4.free rf2 (by omega) (by omega)
  have hN14 := hN3.trans hN4
  have hB4 : Below w.heap.size w u4 := hB1.trans (hN14.toBelow hB1.size (fun b hb => by simp at hb; omega))
  have hT6 : u3.heap.size < u4.heap.size := by omega
  clear hN3 hN4 ho4 hba3 hu3 hrd3 hrt
  have hffl2 : ∀ b ∈ ff, b ≠ w.heap.size ∧ b ≠ w.heap.size + 1 := fun b hb => by have := hffg b hb; omega
  by_cases hm0 : m = 0
  · subst hm0
    go_wp2_with fail
    refine (l4Bent_any 5 2 s _ sf rb (0 + 1 + 20 + 1) _ (by omega) (by omega) (by omega) hfew.1 hfew.2 (by exact hrd4) hnr hu4).mono ?_
    rintro e u5 ⟨⟨s5, v5, f5, hs5, ha5, rfl, hrd5, hf5⟩, hu5, ho5⟩
    obtain ⟨a5, c5, _, rfl, rfl, m5⟩ := Sg.open hrd5
    have hz5 := ho5.size
    go_wp2_with fail
    refine (l4Bent_any (5 + 8) (2 + 1) s5 _ f5 rb (0 + 1 + 20 + 1 + 20) _ (by omega) (by omega) (by omega) hs5 ha5 (by exact hrd5) (fun h => by have := hf5 _ h; omega) hu5).mono ?_
    rintro e X ⟨⟨s6, v6, f6, hs6, ha6, rfl, hrd6, hf6⟩, hu6, ho6⟩
    obtain ⟨a6, c6, _, rfl, rfl, m6⟩ := Sg.open hrd6
    have hN6 := ho5.trans ho6
    have hz6 := hN6.size
    have hzx := ho6.size
    replace t0 := hN6.cellk t0 (by omega)
    replace t1 := hN6.cellk t1 (by omega)
    replace x20 := hN6.cellk x20 (by omega)
    replace xf20 := hN6.free xf20 (by omega) (by omega)
    replace hrt4 := hrt4.only hN6 (fun h => by have := hffg _ h; omega)
    replace r0 := hN6.cellk r0 (by omega)
    replace r1 := hN6.cellk r1 (by omega)
    replace r2 := hN6.cellk r2 (by omega)
    replace rf0 := hN6.free rf0 (by omega) (by omega)
    replace rf1 := hN6.free rf1 (by omega) (by omega)
    replace rf2 := hN6.free rf2 (by omega) (by omega)
    have hB6 := hB4.trans (hN6.toBelow hB4.size (fun b hb => by simp at hb; omega))
    have hf6B : ∀ b ∈ f6, u4.heap.size ≤ b := fun b hb => by have := hf6 b hb; omega
    have y0 := World.cell?_setCell_same X ⟨u2.heap.size, 0, none⟩ (.slice a6 s6.syms.length c6) x20
    have t0' := (World.cell?_setCell_other X ⟨u2.heap.size, 0, none⟩ ⟨u3.heap.size, 0, none⟩ (.slice a6 s6.syms.length c6) (by intro e; simp only [Addr.mk.injEq] at e; omega)).trans t0
    have t1' := (World.cell?_setCell_other X ⟨u2.heap.size, 0, none⟩ ⟨u3.heap.size, 1, none⟩ (.slice a6 s6.syms.length c6) (by intro e; simp only [Addr.mk.injEq] at e; omega)).trans t1
    have q0 := (World.cell?_setCell_other X ⟨u2.heap.size, 0, none⟩ ⟨w.heap.size, 0, none⟩ (.slice a6 s6.syms.length c6) (by intro e; simp only [Addr.mk.injEq] at e; omega)).trans r0
    have q1 := (World.cell?_setCell_other X ⟨u2.heap.size, 0, none⟩ ⟨w.heap.size + 1, 0, none⟩ (.slice a6 s6.syms.length c6) (by intro e; simp only [Addr.mk.injEq] at e; omega)).trans r1
    have q2 := (World.cell?_setCell_other X ⟨u2.heap.size, 0, none⟩ ⟨w.heap.size + 1, 1, none⟩ (.slice a6 s6.syms.length c6) (by intro e; simp only [Addr.mk.injEq] at e; omega)).trans r2
    have hrdY := hrd6.same _ (sameOn_set (w := X) (a := ⟨u2.heap.size, 0, none⟩) (v := .slice a6 s6.syms.length c6) (fun b hb => by have := hf6B b hb; show b ≠ u2.heap.size; omega))
    have hrtY := hrt4.same _ (sameOn_set (w := X) (a := ⟨u2.heap.size, 0, none⟩) (v := .slice a6 s6.syms.length c6) (fun b hb => by have := hffg b hb; show b ≠ u2.heap.size; omega))
    have hBY : Below w.heap.size w (X.setCell ⟨u2.heap.size, 0, none⟩ (.slice a6 s6.syms.length c6)) := hB6.setCell (by show w.heap.size ≤ u2.heap.size; omega) _
    have hfl : ∀ b ∈ f6, b ≠ w.heap.size ∧ b ≠ w.heap.size + 1 := fun b hb => by have := hf6B b hb; omega
    clear r0 r1 r2 t0 t1 hrd6 hrt4 hB6 hB4 ho5 ho6 hN6 hrd5 m5 m6 hu5 hu6
    go_wp2_with fail
    obtain ⟨zA1, zA2⟩ := stored2 (w := (X.setCell ⟨u2.heap.size, 0, none⟩ (.slice a6 s6.syms.length c6)).setCell ⟨w.heap.size, 0, none⟩ (.slice a6 s6.syms.length c6)) (.string t.name) (.slice ka t.kids.length kc) ((World.cell?_setCell_other _ _ ⟨w.heap.size + 1, 0, none⟩ _ (by simp)).trans q1) ((World.cell?_setCell_other _ _ ⟨w.heap.size + 1, 1, none⟩ _ (by simp)).trans q2)
    have zA0 : ((((X.setCell ⟨u2.heap.size, 0, none⟩ (.slice a6 s6.syms.length c6)).setCell ⟨w.heap.size, 0, none⟩ (.slice a6 s6.syms.length c6)).setCell ⟨w.heap.size + 1, 0, none⟩ (.string t.name)).setCell ⟨w.heap.size + 1, 1, none⟩ (.slice ka t.kids.length kc)).cell? ⟨w.heap.size, 0, none⟩ = some (.slice a6 s6.syms.length c6) := (World.cell?_setCell_other _ _ ⟨w.heap.size, 0, none⟩ _ (by simp)).trans ((World.cell?_setCell_other _ _ ⟨w.heap.size, 0, none⟩ _ (by simp)).trans (World.cell?_setCell_same _ _ _ q0))
    obtain ⟨yB1, yB2⟩ := stored2 (w := (X.setCell ⟨u2.heap.size, 0, none⟩ (.slice a6 s6.syms.length c6))) (.string t.name) (.slice ka t.kids.length kc) q1 q2
    have zB0 : ((((X.setCell ⟨u2.heap.size, 0, none⟩ (.slice a6 s6.syms.length c6)).setCell ⟨w.heap.size + 1, 0, none⟩ (.string t.name)).setCell ⟨w.heap.size + 1, 1, none⟩ (.slice ka t.kids.length kc)).setCell ⟨w.heap.size, 0, none⟩ (.slice a6 s6.syms.length c6)).cell? ⟨w.heap.size, 0, none⟩ = some (.slice a6 s6.syms.length c6) := World.cell?_setCell_same _ _ _ ((World.cell?_setCell_other _ _ ⟨w.heap.size, 0, none⟩ _ (by simp)).trans ((World.cell?_setCell_other _ _ ⟨w.heap.size, 0, none⟩ _ (by simp)).trans q0))
    have zB1 := (World.cell?_setCell_other (((X.setCell ⟨u2.heap.size, 0, none⟩ (.slice a6 s6.syms.length c6)).setCell ⟨w.heap.size + 1, 0, none⟩ (.string t.name)).setCell ⟨w.heap.size + 1, 1, none⟩ (.slice ka t.kids.length kc)) ⟨w.heap.size, 0, none⟩ ⟨w.heap.size + 1, 0, none⟩ (.slice a6 s6.syms.length c6) (by simp)).trans yB1
    have zB2 := (World.cell?_setCell_other (((X.setCell ⟨u2.heap.size, 0, none⟩ (.slice a6 s6.syms.length c6)).setCell ⟨w.heap.size + 1, 0, none⟩ (.string t.name)).setCell ⟨w.heap.size + 1, 1, none⟩ (.slice ka t.kids.length kc)) ⟨w.heap.size, 0, none⟩ ⟨w.heap.size + 1, 1, none⟩ (.slice a6 s6.syms.length c6) (by simp)).trans yB2
    have ya0 := World.cell?_setCell_same (X.setCell ⟨u2.heap.size, 0, none⟩ (.slice a6 s6.syms.length c6)) ⟨w.heap.size, 0, none⟩ (.slice a6 s6.syms.length c6) q0
    have ya1 := World.cell?_setCell_same ((X.setCell ⟨u2.heap.size, 0, none⟩ (.slice a6 s6.syms.length c6)).setCell ⟨w.heap.size, 0, none⟩ (.slice a6 s6.syms.length c6)) ⟨w.heap.size + 1, 0, none⟩ (.string t.name) ((World.cell?_setCell_other _ _ ⟨w.heap.size + 1, 0, none⟩ _ (by simp)).trans q1)
    have yb1 := World.cell?_setCell_same (X.setCell ⟨u2.heap.size, 0, none⟩ (.slice a6 s6.syms.length c6)) ⟨w.heap.size + 1, 0, none⟩ (.string t.name) q1
    go_region_held3 (fun U => U.cell? ⟨u2.heap.size, 0, none⟩ = some (.slice a6 s6.syms.length c6) ∧ U.cell? ⟨u3.heap.size, 0, none⟩ = some (.string t.name) ∧ U.cell? ⟨u3.heap.size, 1, none⟩ = some (.slice ka t.kids.length kc))
      (refine ⟨?_, ?_, ?_⟩ <;> ((repeat (first | with_reducible assumption | with_reducible refine cell_drew ?_ | ((with_reducible refine (World.cell?_setCell_other _ _ _ _ ?_).trans ?_); (focus (intro e; simp only [Addr.mk.injEq] at e; omega))))); done))
      (fail)
    all_goals
      go_wp2_with fail
      first
        | (refine bodyPost_ret (v := .tuple #[.agg #[.slice a6 s6.syms.length c6], .agg #[.string t.name, .slice ka t.kids.length kc]]) (by simp [results, Try.results34, go_sem, zA0, zA1, zA2, ya0, ya1, yb1, yB1, yB2]) rfl ?_; exact ⟨⟨s6, t, _, _, ka, kc, f6, ff, hszt, rfl, ((((hrdY.same _ (sameOn_set (a := ⟨w.heap.size, 0, none⟩) (fun b hb => (hfl b hb).1))).same _ (sameOn_set (a := ⟨w.heap.size + 1, 0, none⟩) (fun b hb => (hfl b hb).2))).same _ (sameOn_set (a := ⟨w.heap.size + 1, 1, none⟩) (fun b hb => (hfl b hb).2))).below (below_drew _)), hnm, ((((hrtY.same _ (sameOn_set (a := ⟨w.heap.size, 0, none⟩) (fun b hb => (hffl2 b hb).1))).same _ (sameOn_set (a := ⟨w.heap.size + 1, 0, none⟩) (fun b hb => (hffl2 b hb).2))).same _ (sameOn_set (a := ⟨w.heap.size + 1, 1, none⟩) (fun b hb => (hffl2 b hb).2))).below (below_drew _))⟩, (((hBY.setCell (by simp) _).setCell (by simp) _).setCell (by simp) _).drew⟩)
        | (refine bodyPost_ret (v := .tuple #[.agg #[.slice a6 s6.syms.length c6], .agg #[.string t.name, .slice ka t.kids.length kc]]) (by simp [results, Try.results34, go_sem, zB0, zB1, zB2, ya0, ya1, yb1, yB1, yB2]) rfl ?_; exact ⟨⟨s6, t, _, _, ka, kc, f6, ff, hszt, rfl, ((((hrdY.same _ (sameOn_set (a := ⟨w.heap.size + 1, 0, none⟩) (fun b hb => (hfl b hb).2))).same _ (sameOn_set (a := ⟨w.heap.size + 1, 1, none⟩) (fun b hb => (hfl b hb).2))).same _ (sameOn_set (a := ⟨w.heap.size, 0, none⟩) (fun b hb => (hfl b hb).1))).below (below_drew _)), hnm, ((((hrtY.same _ (sameOn_set (a := ⟨w.heap.size + 1, 0, none⟩) (fun b hb => (hffl2 b hb).2))).same _ (sameOn_set (a := ⟨w.heap.size + 1, 1, none⟩) (fun b hb => (hffl2 b hb).2))).same _ (sameOn_set (a := ⟨w.heap.size, 0, none⟩) (fun b hb => (hffl2 b hb).1))).below (below_drew _))⟩, (((hBY.setCell (by simp) _).setCell (by simp) _).setCell (by simp) _).drew⟩)
  · clear xf20 hu4 hB1 hN14 hl2
    have hfl : ∀ b ∈ sf, b ≠ w.heap.size ∧ b ≠ w.heap.size + 1 := fun b hb => by have := hsf b hb; omega
    go_wp2_with fail
    obtain ⟨zA1, zA2⟩ := stored2 (w := u4.setCell ⟨w.heap.size, 0, none⟩ (.slice a0 s.syms.length c0)) (.string t.name) (.slice ka t.kids.length kc) ((World.cell?_setCell_other _ _ ⟨w.heap.size + 1, 0, none⟩ _ (by simp)).trans r1) ((World.cell?_setCell_other _ _ ⟨w.heap.size + 1, 1, none⟩ _ (by simp)).trans r2)
    have zA0 : (((u4.setCell ⟨w.heap.size, 0, none⟩ (.slice a0 s.syms.length c0)).setCell ⟨w.heap.size + 1, 0, none⟩ (.string t.name)).setCell ⟨w.heap.size + 1, 1, none⟩ (.slice ka t.kids.length kc)).cell? ⟨w.heap.size, 0, none⟩ = some (.slice a0 s.syms.length c0) := (World.cell?_setCell_other _ _ ⟨w.heap.size, 0, none⟩ _ (by simp)).trans ((World.cell?_setCell_other _ _ ⟨w.heap.size, 0, none⟩ _ (by simp)).trans (World.cell?_setCell_same _ _ _ r0))
    obtain ⟨yB1, yB2⟩ := stored2 (w := u4) (.string t.name) (.slice ka t.kids.length kc) r1 r2
    have zB0 : (((u4.setCell ⟨w.heap.size + 1, 0, none⟩ (.string t.name)).setCell ⟨w.heap.size + 1, 1, none⟩ (.slice ka t.kids.length kc)).setCell ⟨w.heap.size, 0, none⟩ (.slice a0 s.syms.length c0)).cell? ⟨w.heap.size, 0, none⟩ = some (.slice a0 s.syms.length c0) := World.cell?_setCell_same _ _ _ ((World.cell?_setCell_other _ _ ⟨w.heap.size, 0, none⟩ _ (by simp)).trans ((World.cell?_setCell_other _ _ ⟨w.heap.size, 0, none⟩ _ (by simp)).trans r0))
    have zB1 := (World.cell?_setCell_other ((u4.setCell ⟨w.heap.size + 1, 0, none⟩ (.string t.name)).setCell ⟨w.heap.size + 1, 1, none⟩ (.slice ka t.kids.length kc)) ⟨w.heap.size, 0, none⟩ ⟨w.heap.size + 1, 0, none⟩ (.slice a0 s.syms.length c0) (by simp)).trans yB1
    have zB2 := (World.cell?_setCell_other ((u4.setCell ⟨w.heap.size + 1, 0, none⟩ (.string t.name)).setCell ⟨w.heap.size + 1, 1, none⟩ (.slice ka t.kids.length kc)) ⟨w.heap.size, 0, none⟩ ⟨w.heap.size + 1, 1, none⟩ (.slice a0 s.syms.length c0) (by simp)).trans yB2
    have ya0 := World.cell?_setCell_same u4 ⟨w.heap.size, 0, none⟩ (.slice a0 s.syms.length c0) r0
    have ya1 := World.cell?_setCell_same (u4.setCell ⟨w.heap.size, 0, none⟩ (.slice a0 s.syms.length c0)) ⟨w.heap.size + 1, 0, none⟩ (.string t.name) ((World.cell?_setCell_other _ _ ⟨w.heap.size + 1, 0, none⟩ _ (by simp)).trans r1)
    have yb1 := World.cell?_setCell_same u4 ⟨w.heap.size + 1, 0, none⟩ (.string t.name) r1
    go_region_held3 (fun U => U.cell? ⟨u2.heap.size, 0, none⟩ = some (.slice a0 s.syms.length c0) ∧ U.cell? ⟨u3.heap.size, 0, none⟩ = some (.string t.name) ∧ U.cell? ⟨u3.heap.size, 1, none⟩ = some (.slice ka t.kids.length kc))
      (refine ⟨?_, ?_, ?_⟩ <;> ((repeat (first | with_reducible assumption | with_reducible refine cell_drew ?_ | ((with_reducible refine (World.cell?_setCell_other _ _ _ _ ?_).trans ?_); (focus (intro e; simp only [Addr.mk.injEq] at e; omega))))); done))
      (fail)
    all_goals
      go_wp2_with fail
      first
        | (refine bodyPost_ret (v := .tuple #[.agg #[.slice a0 s.syms.length c0], .agg #[.string t.name, .slice ka t.kids.length kc]]) (by simp [results, Try.results34, go_sem, zA0, zA1, zA2, ya0, ya1, yb1, yB1, yB2]) rfl ?_; exact ⟨⟨s, t, _, _, ka, kc, sf, ff, hszt, rfl, ((((hrd4.same _ (sameOn_set (a := ⟨w.heap.size, 0, none⟩) (fun b hb => (hfl b hb).1))).same _ (sameOn_set (a := ⟨w.heap.size + 1, 0, none⟩) (fun b hb => (hfl b hb).2))).same _ (sameOn_set (a := ⟨w.heap.size + 1, 1, none⟩) (fun b hb => (hfl b hb).2))).below (below_drew _)), hnm, ((((hrt4.same _ (sameOn_set (a := ⟨w.heap.size, 0, none⟩) (fun b hb => (hffl2 b hb).1))).same _ (sameOn_set (a := ⟨w.heap.size + 1, 0, none⟩) (fun b hb => (hffl2 b hb).2))).same _ (sameOn_set (a := ⟨w.heap.size + 1, 1, none⟩) (fun b hb => (hffl2 b hb).2))).below (below_drew _))⟩, (((hB4.setCell (by simp) _).setCell (by simp) _).setCell (by simp) _).drew⟩)
        | (refine bodyPost_ret (v := .tuple #[.agg #[.slice a0 s.syms.length c0], .agg #[.string t.name, .slice ka t.kids.length kc]]) (by simp [results, Try.results34, go_sem, zB0, zB1, zB2, ya0, ya1, yb1, yB1, yB2]) rfl ?_; exact ⟨⟨s, t, _, _, ka, kc, sf, ff, hszt, rfl, ((((hrd4.same _ (sameOn_set (a := ⟨w.heap.size + 1, 0, none⟩) (fun b hb => (hfl b hb).2))).same _ (sameOn_set (a := ⟨w.heap.size + 1, 1, none⟩) (fun b hb => (hfl b hb).2))).same _ (sameOn_set (a := ⟨w.heap.size, 0, none⟩) (fun b hb => (hfl b hb).1))).below (below_drew _)), hnm, ((((hrt4.same _ (sameOn_set (a := ⟨w.heap.size + 1, 0, none⟩) (fun b hb => (hffl2 b hb).2))).same _ (sameOn_set (a := ⟨w.heap.size + 1, 1, none⟩) (fun b hb => (hffl2 b hb).2))).same _ (sameOn_set (a := ⟨w.heap.size, 0, none⟩) (fun b hb => (hffl2 b hb).1))).below (below_drew _))⟩, (((hB4.setCell (by simp) _).setCell (by simp) _).setCell (by simp) _).drew⟩)
end Go.Proofs.Ytlcfophhjflpdaa
