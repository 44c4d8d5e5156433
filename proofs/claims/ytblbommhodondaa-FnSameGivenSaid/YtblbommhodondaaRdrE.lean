/- Draws of chapter 5: DrawSameIs, DrawEqsOk, DrawSameSteps, DrawSameClass. -/
import Derived.Test.YtblbommhodondaaRdrD
import Derived.Test.YtblbommhodondaaCloW
namespace Go.Proofs.Ytblbommhodondaa
open Go Go.RowKit
set_option linter.unusedVariables false
set_option linter.unusedSimpArgs false
theorem box3_new (u : World) (cs ds es : List Value) (T U V : TypeId) :
    (∀ j x, cs[j]? = some x → (((u.alloc (.cells cs.toArray T)).alloc (.cells ds.toArray U)).alloc (.cells es.toArray V)).cell? ⟨u.heap.size, j, none⟩ = some x) ∧
    (∀ j x, ds[j]? = some x → (((u.alloc (.cells cs.toArray T)).alloc (.cells ds.toArray U)).alloc (.cells es.toArray V)).cell? ⟨u.heap.size + 1, j, none⟩ = some x) ∧
    (∀ j x, es[j]? = some x → (((u.alloc (.cells cs.toArray T)).alloc (.cells ds.toArray U)).alloc (.cells es.toArray V)).cell? ⟨u.heap.size + 1 + 1, j, none⟩ = some x) ∧
    Below u.heap.size u (((u.alloc (.cells cs.toArray T)).alloc (.cells ds.toArray U)).alloc (.cells es.toArray V)) ∧
    (((u.alloc (.cells cs.toArray T)).alloc (.cells ds.toArray U)).alloc (.cells es.toArray V)).heap.size = u.heap.size + 1 + 1 + 1 := by
  refine ⟨fun j x hx => cell_ak (cell_ak (cells_new' u cs T j x hx)), fun j x hx => ?_, fun j x hx => ?_, (((Below.refl _ _).alloc (Nat.le_refl _) _).alloc (by simp) _).alloc (by simp; omega) _, by simp⟩
  · have h := cells_new' (u.alloc (.cells cs.toArray T)) ds U j x hx
    rw [World.size_alloc] at h; exact cell_ak h
  · have h := cells_new' ((u.alloc (.cells cs.toArray T)).alloc (.cells ds.toArray U)) es V j x hx
    rw [World.size_alloc, World.size_alloc] at h; exact h
/-- Three result cells, fresh. -/
structure Res3 (w W : World) : Prop where
  r0 : W.cell? ⟨w.heap.size, 0, none⟩ = some (.slice none 0 0)
  r1 : W.cell? ⟨w.heap.size + 1, 0, none⟩ = some (.string ⟨#[]⟩)
  r2 : W.cell? ⟨w.heap.size + 1, 1, none⟩ = some (.slice none 0 0)
  r3 : W.cell? ⟨w.heap.size + 1 + 1, 0, none⟩ = some (.string ⟨#[]⟩)
  r4 : W.cell? ⟨w.heap.size + 1 + 1, 1, none⟩ = some (.slice none 0 0)
  f0 : W.frozen? ⟨w.heap.size, 0, none⟩ = false
  f1 : W.frozen? ⟨w.heap.size + 1, 0, none⟩ = false
  f2 : W.frozen? ⟨w.heap.size + 1, 1, none⟩ = false
  f3 : W.frozen? ⟨w.heap.size + 1 + 1, 0, none⟩ = false
  f4 : W.frozen? ⟨w.heap.size + 1 + 1, 1, none⟩ = false
  size : w.heap.size + 1 + 1 + 1 ≤ W.heap.size
theorem Res3.below {w W W' : World} (h : Res3 w W) (hb : Below W.heap.size W W') : Res3 w W' := by
  have hz := h.size
  have hs := hb.size
  exact ⟨cell_keep h.r0 hb, cell_keep h.r1 hb, cell_keep h.r2 hb, cell_keep h.r3 hb, cell_keep h.r4 hb, (free_of_block (hb.block _ (by omega))).trans h.f0, (free_of_block (hb.block _ (by omega))).trans h.f1, (free_of_block (hb.block _ (by omega))).trans h.f2, (free_of_block (hb.block _ (by omega))).trans h.f3, (free_of_block (hb.block _ (by omega))).trans h.f4, by omega⟩
theorem res3_new (w : World) : Res3 w (((w.alloc (.cells #[.slice none 0 0] 25)).alloc (.cells #[.string ⟨#[]⟩, .slice none 0 0] 37)).alloc (.cells #[.string ⟨#[]⟩, .slice none 0 0] 37)) := by
  have r1 : (((w.alloc (.cells #[.slice none 0 0] 25)).alloc (.cells #[.string ⟨#[]⟩, .slice none 0 0] 37)).alloc (.cells #[.string ⟨#[]⟩, .slice none 0 0] 37)).cell? ⟨w.heap.size + 1, 0, none⟩ = some (.string ⟨#[]⟩) := by
    have h := cells_new' (w.alloc (.cells #[.slice none 0 0] 25)) [.string ⟨#[]⟩, .slice none 0 0] 37 0 _ rfl
    rw [World.size_alloc] at h; exact cell_ak h
  have r2 : (((w.alloc (.cells #[.slice none 0 0] 25)).alloc (.cells #[.string ⟨#[]⟩, .slice none 0 0] 37)).alloc (.cells #[.string ⟨#[]⟩, .slice none 0 0] 37)).cell? ⟨w.heap.size + 1, 1, none⟩ = some (.slice none 0 0) := by
    have h := cells_new' (w.alloc (.cells #[.slice none 0 0] 25)) [.string ⟨#[]⟩, .slice none 0 0] 37 1 _ rfl
    rw [World.size_alloc] at h; exact cell_ak h
  have r3 : (((w.alloc (.cells #[.slice none 0 0] 25)).alloc (.cells #[.string ⟨#[]⟩, .slice none 0 0] 37)).alloc (.cells #[.string ⟨#[]⟩, .slice none 0 0] 37)).cell? ⟨w.heap.size + 1 + 1, 0, none⟩ = some (.string ⟨#[]⟩) := by
    have h := cells_new' ((w.alloc (.cells #[.slice none 0 0] 25)).alloc (.cells #[.string ⟨#[]⟩, .slice none 0 0] 37)) [.string ⟨#[]⟩, .slice none 0 0] 37 0 _ rfl
    rw [World.size_alloc, World.size_alloc] at h; exact h
  have r4 : (((w.alloc (.cells #[.slice none 0 0] 25)).alloc (.cells #[.string ⟨#[]⟩, .slice none 0 0] 37)).alloc (.cells #[.string ⟨#[]⟩, .slice none 0 0] 37)).cell? ⟨w.heap.size + 1 + 1, 1, none⟩ = some (.slice none 0 0) := by
    have h := cells_new' ((w.alloc (.cells #[.slice none 0 0] 25)).alloc (.cells #[.string ⟨#[]⟩, .slice none 0 0] 37)) [.string ⟨#[]⟩, .slice none 0 0] 37 1 _ rfl
    rw [World.size_alloc, World.size_alloc] at h; exact h
  have q0 : ∀ j, (((w.alloc (.cells #[.slice none 0 0] 25)).alloc (.cells #[.string ⟨#[]⟩, .slice none 0 0] 37)).alloc (.cells #[.string ⟨#[]⟩, .slice none 0 0] 37)).frozen? ⟨w.heap.size, j, none⟩ = false := fun j => (free_of_block (heap_alloc_old _ _ (by simp; omega))).trans ((free_of_block (heap_alloc_old _ _ (by simp))).trans (free_new w _ _ j))
  have q1 : ∀ j, (((w.alloc (.cells #[.slice none 0 0] 25)).alloc (.cells #[.string ⟨#[]⟩, .slice none 0 0] 37)).alloc (.cells #[.string ⟨#[]⟩, .slice none 0 0] 37)).frozen? ⟨w.heap.size + 1, j, none⟩ = false := fun j => by
    have h := free_new (w.alloc (.cells #[.slice none 0 0] 25)) #[.string ⟨#[]⟩, .slice none 0 0] 37 j
    rw [World.size_alloc] at h; exact (free_of_block (heap_alloc_old _ _ (by simp))).trans h
  have q2 : ∀ j, (((w.alloc (.cells #[.slice none 0 0] 25)).alloc (.cells #[.string ⟨#[]⟩, .slice none 0 0] 37)).alloc (.cells #[.string ⟨#[]⟩, .slice none 0 0] 37)).frozen? ⟨w.heap.size + 1 + 1, j, none⟩ = false := fun j => by
    have h := free_new ((w.alloc (.cells #[.slice none 0 0] 25)).alloc (.cells #[.string ⟨#[]⟩, .slice none 0 0] 37)) #[.string ⟨#[]⟩, .slice none 0 0] 37 j
    rw [World.size_alloc, World.size_alloc] at h; exact h
  exact ⟨cell_ak (cell_ak (cells_new' w [.slice none 0 0] _ 0 _ rfl)), r1, r2, r3, r4, q0 0, q1 0, q1 1, q2 0, q2 1, by simp⟩
theorem res3_below (w : World) : Below w.heap.size w (((w.alloc (.cells #[.slice none 0 0] 25)).alloc (.cells #[.string ⟨#[]⟩, .slice none 0 0] 37)).alloc (.cells #[.string ⟨#[]⟩, .slice none 0 0] 37)) := (((Below.refl _ _).alloc (Nat.le_refl _) _).alloc (by simp) _).alloc (by simp; omega) _
theorem sets_below {w w6 : World} {v0 v1 v2 v3 v4 : Value} (hB6 : Below w.heap.size w w6) : Below w.heap.size w (((((w6.setCell ⟨w.heap.size, 0, none⟩ v0).setCell ⟨w.heap.size + 1, 0, none⟩ v1).setCell ⟨w.heap.size + 1, 1, none⟩ v2).setCell ⟨w.heap.size + 1 + 1, 0, none⟩ v3).setCell ⟨w.heap.size + 1 + 1, 1, none⟩ v4) := by
  refine Below.setCell (Below.setCell (Below.setCell (Below.setCell (Below.setCell hB6 ?_ _) ?_ _) ?_ _) ?_ _) ?_ _ <;> simp <;> omega

set_option maxRecDepth 100000 in
set_option maxHeartbeats 4000000 in
theorem drawSameIs_any (v : Value) (w : World) (hv : Byts w v) :
    Calls Try.prog 21 #[v] w fun e w' => Drawn5 w.heap.size e w' ∧ Below w.heap.size w w' := by
  have hR := res3_new w
  have hB0 := res3_below w
  go_enter Try.func21, Try.ntmps21
  go_wp2_with fail
  refine (l5Draw_any v _ (by exact hv.below hB0)).mono ?_
  rintro e u1 ⟨⟨s, es, a, b, sa, sc, ev, ka, kc, kb, kd, sf, ef, fa, fb, hfew, hel, hes, ha, hb, rfl, hrs, hre, hra, hrb, hown⟩, hb1⟩
  obtain ⟨r0, r1, r2, r3, r4, f0, f1, f2, f3, f4, hz⟩ := hR.below hb1
  have hB1 := hB0.trans (hb1.mono hB0.size)
  have hown' : ∀ x, x ∈ sf ∨ x ∈ ef ∨ x ∈ fa ∨ x ∈ fb → w.heap.size + 1 + 1 + 1 ≤ x := fun x hx => by have := hown x hx; simp at this; omega
  clear hR hB0 hb1 hown
  go_wp2_with fail
  refine bodyPost_ret (v := .tuple #[.agg #[.slice sa s.syms.length sc], ev, .agg #[.string a.name, .slice ka a.kids.length kc], .agg #[.string b.name, .slice kb b.kids.length kd]]) ?_ rfl ?_
  · simp [results, Try.results21, go_sem, r0, r1, r2, r3, r4]
  · refine ⟨⟨s, es, a, b, sa, sc, ev, ka, kc, kb, kd, sf, ef, fa, fb, hfew, hel, hes, ha, hb, rfl, hrs.same _ ?_, hre.same _ ?_, hra.same _ ?_, hrb.same _ ?_, fun x hx => by have := hown' x hx; omega⟩, sets_below hB1⟩
    · exact fun x hx => by have := hown' x (by simp [hx]); exact five_sets x (by omega) (by omega) (by omega)
    · exact fun x hx => by have := hown' x (by simp [hx]); exact five_sets x (by omega) (by omega) (by omega)
    · exact fun x hx => by have := hown' x (by simp [hx]); exact five_sets x (by omega) (by omega) (by omega)
    · exact fun x hx => by have := hown' x (by simp [hx]); exact five_sets x (by omega) (by omega) (by omega)
/-- Words and equations that were drawn. -/
def Drawn2 (e : Ending) (w' : World) : Prop := ∃ (s : Sg) (es : List Eqn) (sa : Option Addr) (sc : Nat) (ev : Value) (sf ef : List Nat),
  s.few ∧ es.length ≤ 13 ∧ (∀ q ∈ es, q.a.size ≤ 45 ∧ q.b.size ≤ 45) ∧ e = .returned (.tuple #[.agg #[.slice sa s.syms.length sc], ev]) ∧ RdVs w' s.cd [.slice sa s.syms.length sc] sf ∧ Rd w' (.sl (es.map Eqn.cd)) ev ef
/-- Words, equations and two terms more, that were drawn. -/
def Drawn3 (B : Nat) (e : Ending) (w' : World) : Prop := ∃ (s : Sg) (es : List Eqn) (a b : Tm) (sa : Option Addr) (sc : Nat) (ev mv : Value) (sf ef mf : List Nat),
  s.few ∧ es.length ≤ 13 ∧ (∀ q ∈ es, q.a.size ≤ 45 ∧ q.b.size ≤ 45) ∧ a.size ≤ 45 ∧ b.size ≤ 45 ∧ e = .returned (.tuple #[.agg #[.slice sa s.syms.length sc], ev, mv]) ∧
  RdVs w' s.cd [.slice sa s.syms.length sc] sf ∧ Rd w' (.sl (es.map Eqn.cd)) ev ef ∧ Rd w' (.sl ([a, b].map Tm.cd)) mv mf ∧ ∀ x, x ∈ sf ∨ x ∈ ef ∨ x ∈ mf → B ≤ x
theorem tms2_rdf {W : World} {a b : Tm} {u0 u1 v0 v1 : Value} {f1 f2 : List Nat} {g : Nat} (h1 : RdVs W a.cd [u0, u1] f1) (h2 : RdVs W b.cd [v0, v1] f2) (hg : g < W.heap.size) (hc : ∀ j u, [u0, u1, v0, v1][j]? = some u → W.cell? ⟨g, j, none⟩ = some u) : Rd W (.sl ([a, b].map Tm.cd)) (.slice (some ⟨g, 0, none⟩) 2 2) (g :: (f1 ++ f2)) := by
  simp only [Rd]
  refine ⟨_, 2, rfl, by simp, by simp [maxLen], .inr ⟨by simp, g, 0, f1 ++ f2, rfl, hg, rfl, ?_⟩⟩
  refine RdRows.mk (k := 2) (vs := [u0, u1, v0, v1]) (fun j u hj => by simpa using hc j u hj) ?_
  have := h1.app h2
  simpa using this
theorem d3_end {w W Z : World} {s : Sg} {es : List Eqn} {a b : Tm} {sa ka kb : Option Addr} {sc kc kd : Nat} {ev : Value} {sf ef fa fb : List Nat} (hfew : s.few) (hel : es.length ≤ 13) (hes : ∀ q ∈ es, q.a.size ≤ 45 ∧ q.b.size ≤ 45) (ha : a.size ≤ 45) (hb : b.size ≤ 45)
    (hrs : RdVs W s.cd [.slice sa s.syms.length sc] sf) (hre : Rd W (.sl (es.map Eqn.cd)) ev ef) (hra : RdVs W a.cd [.string a.name, .slice ka a.kids.length kc] fa) (hrb : RdVs W b.cd [.string b.name, .slice kb b.kids.length kd] fb)
    (hown : ∀ x, x ∈ sf ∨ x ∈ ef ∨ x ∈ fa ∨ x ∈ fb → w.heap.size + 1 ≤ x) (hw : w.heap.size < W.heap.size) (hZ : ∀ b, b ≠ w.heap.size → b < W.heap.size → Z.heap[b]? = W.heap[b]?)
    (hL : ∀ j u, [Value.string a.name, .slice ka a.kids.length kc, .string b.name, .slice kb b.kids.length kd][j]? = some u → Z.cell? ⟨W.heap.size, j, none⟩ = some u) (hlt : W.heap.size < Z.heap.size) :
    Drawn3 w.heap.size (.returned (.tuple #[.agg #[.slice sa s.syms.length sc], ev, .slice (some ⟨W.heap.size, 0, none⟩) 2 2])) Z := by
  have h1 := RdVs.lt _ hrs
  have h2 := hre.lt
  have h3 := RdVs.lt _ hra
  have h4 := RdVs.lt _ hrb
  refine ⟨s, es, a, b, sa, sc, ev, _, sf, ef, _, hfew, hel, hes, ha, hb, rfl, hrs.same _ (fun x hx => ?_), hre.same _ (fun x hx => ?_), tms2_rdf (hra.same _ (fun x hx => ?_)) (hrb.same _ (fun x hx => ?_)) hlt hL, fun x hx => ?_⟩
  · have := hown x (by simp [hx]); exact hZ x (by omega) (h1 x hx)
  · have := hown x (by simp [hx]); exact hZ x (by omega) (h2 x hx)
  · have := hown x (by simp [hx]); exact hZ x (by omega) (h3 x hx)
  · have := hown x (by simp [hx]); exact hZ x (by omega) (h4 x hx)
  · rcases hx with h | h | h
    · have := hown x (by simp [h]); omega
    · have := hown x (by simp [h]); omega
    · rcases List.mem_cons.1 h with rfl | h
      · omega
      · rcases List.mem_append.1 h with h | h
        · have := hown x (by simp [h]); omega
        · have := hown x (by simp [h]); omega
set_option maxRecDepth 100000 in
set_option maxHeartbeats 4000000 in
theorem drawSameSteps_any (v : Value) (w : World) (hv : Byts w v) :
    Calls Try.prog 18 #[v] w fun e w' => Drawn3 w.heap.size e w' ∧ Below w.heap.size w w' := by
  have hB0 := below_alloc w (.cells #[.slice none 0 0] 25)
  have r0 : (w.alloc (.cells #[.slice none 0 0] 25)).cell? ⟨w.heap.size, 0, none⟩ = some (.slice none 0 0) := cells_new' w [.slice none 0 0] _ 0 _ rfl
  have f0 : (w.alloc (.cells #[.slice none 0 0] 25)).frozen? ⟨w.heap.size, 0, none⟩ = false := free_new w _ _ 0
  go_enter Try.func18, Try.ntmps18
  go_wp2_with fail
  refine (l5Draw_any v _ (by exact hv.below hB0)).mono ?_
  rintro e u1 ⟨⟨s, es, a, b, sa, sc, ev, ka, kc, kb, kd, sf, ef, fa, fb, hfew, hel, hes, ha, hb, rfl, hrs, hre, hra, hrb, hown⟩, hb1⟩
  replace r0 := cell_keep r0 hb1
  replace f0 := (free_of_block (hb1.block _ (by simp))).trans f0
  have hz1 := hb1.size
  rw [World.size_alloc] at hz1
  have hB1 := hB0.trans (hb1.mono hB0.size)
  have hown' : ∀ x, x ∈ sf ∨ x ∈ ef ∨ x ∈ fa ∨ x ∈ fb → w.heap.size + 1 ≤ x := fun x hx => by have := hown x hx; simp at this; omega
  clear hB0 hb1 hown
  have b1 := below_alloc u1 (.cells #[.slice sa s.syms.length sc] 25)
  go_wp2_with fail
  obtain ⟨X, Y, K, hbb, hsz⟩ := box3_new u1 [.slice sa s.syms.length sc] [.string a.name, .slice ka a.kids.length kc] [.string b.name, .slice kb b.kids.length kd] 25 37 37
  have x0 := X 0 _ rfl
  have y0 := Y 0 _ rfl
  have y1 := Y 1 _ rfl
  have k0 := K 0 _ rfl
  have k1 := K 1 _ rfl
  clear X Y K
  replace r0 := cell_keep r0 hbb
  replace f0 := (free_of_block (hbb.block _ (by omega))).trans f0
  replace hrs := hrs.below hbb
  replace hre := hre.below hbb
  replace hra := hra.below hbb
  replace hrb := hrb.below hbb
  replace hB1 := hB1.trans (hbb.mono hB1.size)
  clear hbb b1
  change _ at hsz
  generalize ((u1.alloc (.cells [.slice sa s.syms.length sc].toArray 25)).alloc (.cells [.string a.name, .slice ka a.kids.length kc].toArray 37)).alloc (.cells [.string b.name, .slice kb b.kids.length kd].toArray 37) = W at *
  have hlW := World.block_lt_of_cell? _ _ r0
  have z1 := World.cell?_setCell_same (W.alloc (.cells #[.string a.name, .slice ka a.kids.length kc, .string b.name, .slice kb b.kids.length kd] 37)) ⟨w.heap.size, 0, none⟩ (.slice sa s.syms.length sc) (cell_ak r0)
  have z2 := cell_ak (o := (.cells #[.string a.name, .slice ka a.kids.length kc, .string b.name, .slice kb b.kids.length kd] 37)) (World.cell?_setCell_same W ⟨w.heap.size, 0, none⟩ (.slice sa s.syms.length sc) r0)
  have r0a := cell_ak (o := .cells #[.string a.name, .slice ka a.kids.length kc, .string b.name, .slice kb b.kids.length kd] 37) r0
  have f0a : (W.alloc (.cells #[.string a.name, .slice ka a.kids.length kc, .string b.name, .slice kb b.kids.length kd] 37)).frozen? ⟨w.heap.size, 0, none⟩ = false := (free_of_block (heap_alloc_old _ _ hlW)).trans f0
  go_region_held3 (fun U => U.cell? ⟨u1.heap.size, 0, none⟩ = some (.slice sa s.syms.length sc) ∧ U.cell? ⟨u1.heap.size + 1, 0, none⟩ = some (.string a.name) ∧ U.cell? ⟨u1.heap.size + 1, 1, none⟩ = some (.slice ka a.kids.length kc) ∧ U.cell? ⟨u1.heap.size + 1 + 1, 0, none⟩ = some (.string b.name) ∧ U.cell? ⟨u1.heap.size + 1 + 1, 1, none⟩ = some (.slice kb b.kids.length kd))
    ((refine ⟨?_, ?_, ?_, ?_, ?_⟩) <;> ((repeat (first | with_reducible assumption | with_reducible refine cell_drew ?_ | with_reducible refine cell_ak ?_ | ((with_reducible refine (World.cell?_setCell_other _ _ _ _ ?_).trans ?_); (focus (intro e; simp only [Addr.mk.injEq] at e; omega))))); done))
    (fail)
  all_goals
    go_wp2_with fail
    refine bodyPost_ret (v := .tuple #[.agg #[.slice sa s.syms.length sc], ev, .slice (some ⟨W.heap.size, 0, none⟩) 2 2]) ?_ rfl ?_
    · first | (simp [results, Try.results18, go_sem, z1]; done) | (simp [results, Try.results18, go_sem, z2]; done) | (simp only [results, Try.results18]; simp [z1]; done) | (simp only [results, Try.results18]; simp [z2]; done)
    · refine ⟨d3_end hfew hel hes ha hb hrs hre hra hrb hown' hlW ?_ ?_ ?_, ?_⟩
      · first
          | exact fun b h1 h2 => (Below.heap_setCell _ _ _ _ h1).trans (heap_alloc_old _ _ h2)
          | exact fun b h1 h2 => (heap_alloc_old _ _ (by simpa [World.setCell] using h2)).trans (Below.heap_setCell _ _ _ _ h1)
      · first
          | exact fun j u hu => (World.cell?_setCell_other _ _ _ _ (by intro e; simp only [Addr.mk.injEq] at e; omega)).trans (cells_new' W _ 37 j u hu)
          | exact fun j u hu => by
              have h := cells_new' (W.setCell ⟨w.heap.size, 0, none⟩ (.slice sa s.syms.length sc)) [.string a.name, .slice ka a.kids.length kc, .string b.name, .slice kb b.kids.length kd] 37 j u hu
              simpa [World.setCell] using h
      · first | (simp [World.setCell]; done) | (simp; done)
      · first
          | (refine Below.drew (Below.setCell (hB1.alloc (by omega) _) ?_ _); exact Nat.le_refl _)
          | (refine Below.drew (Below.alloc (Below.setCell hB1 ?_ _) ?_ _) <;> first | exact Nat.le_refl _ | (simp [World.setCell]; omega) | (simp; omega) | omega)
set_option maxRecDepth 100000 in
set_option maxHeartbeats 4000000 in
theorem drawSameClass_any (v : Value) (w : World) (hv : Byts w v) :
    Calls Try.prog 11 #[v] w fun e w' => Drawn3 w.heap.size e w' ∧ Below w.heap.size w w' := by
  have hB0 := below_alloc w (.cells #[.slice none 0 0] 25)
  have r0 : (w.alloc (.cells #[.slice none 0 0] 25)).cell? ⟨w.heap.size, 0, none⟩ = some (.slice none 0 0) := cells_new' w [.slice none 0 0] _ 0 _ rfl
  have f0 : (w.alloc (.cells #[.slice none 0 0] 25)).frozen? ⟨w.heap.size, 0, none⟩ = false := free_new w _ _ 0
  go_enter Try.func11, Try.ntmps11
  go_wp2_with fail
  refine (drawSameSteps_any v _ (by exact hv.below hB0)).mono ?_
  rintro e u1 ⟨⟨s, es, a, b, sa, sc, ev, mv, sf, ef, mf, hfew, hel, hes, ha, hb, rfl, hrs, hre, hrm, hown⟩, hb1⟩
  replace r0 := cell_keep r0 hb1
  replace f0 := (free_of_block (hb1.block _ (by simp))).trans f0
  have hB1 := hB0.trans (hb1.mono hB0.size)
  have hown' : ∀ x, x ∈ sf ∨ x ∈ ef ∨ x ∈ mf → w.heap.size + 1 ≤ x := fun x hx => by have := hown x hx; simp at this; omega
  clear hB0 hb1 hown
  go_wp2_with fail
  refine bodyPost_ret (v := .tuple #[.agg #[.slice sa s.syms.length sc], ev, mv]) ?_ rfl ?_
  · simp [results, Try.results11, go_sem, r0]
  · refine ⟨⟨s, es, a, b, sa, sc, ev, mv, sf, ef, mf, hfew, hel, hes, ha, hb, rfl, hrs.same _ ?_, hre.same _ ?_, hrm.same _ ?_, fun x hx => by have := hown' x hx; omega⟩, hB1.setCell (by simp) _⟩
    all_goals exact fun x hx => by have := hown' x (by simp [hx]); exact Below.heap_setCell _ _ _ _ (fun e => by (try simp only at e); omega)
end Go.Proofs.Ytblbommhodondaa
