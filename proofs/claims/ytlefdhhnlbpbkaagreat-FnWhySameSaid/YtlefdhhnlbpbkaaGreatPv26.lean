/- Parts of the proof: RdrD. -/
import Derived.Deep.RegionHeld3
import Derived.Test.YtlefdhhnlbpbkaaGreatPv24
import Derived.Test.YtlefdhhnlbpbkaaGreatPv25
import Derived.Test.YtlefdhhnlbpbkaaGreatPv21
import Derived.Test.YtlefdhhnlbpbkaaGreatPv12
section
namespace Go.Proofs.YtlefdhhnlbpbkaaGreat
open Go Go.RowKit
set_option linter.unusedVariables false
set_option linter.unusedSimpArgs false
set_option maxRecDepth 100000
set_option maxHeartbeats 16000000
theorem Only.cell2 {w w' : World} {rb g b i : Nat} {u : Value} (h : Only [rb, g] w w') (hc : w.cell? ⟨b, i, none⟩ = some u) (h1 : b ≠ rb) (h2 : b ≠ g) : w'.cell? ⟨b, i, none⟩ = some u := zl (h.block b (World.block_lt_of_cell? _ _ hc) (by simp [h1, h2])) hc
theorem Only.free2 {w w' : World} {rb g b i : Nat} {f : Bool} (h : Only [rb, g] w w') (hc : w.frozen? ⟨b, i, none⟩ = f) (hb : b < w.heap.size) (h1 : b ≠ rb) (h2 : b ≠ g) : w'.frozen? ⟨b, i, none⟩ = f := zah (h.block b hb (by simp [h1, h2])) hc
theorem RdVs.only2 {w w' : World} {d : List CD} {v : List Value} {fp : List Nat} {rb g : Nat} (h : RdVs w d v fp) (ho : Only [rb, g] w w') (h1 : rb ∉ fp) (h2 : g ∉ fp) : RdVs w' d v fp :=
 h.same d (fun b hb => ho.block b (RdVs.lt d h b hb) (by intro hm; simp at hm; rcases hm with e | e; exact h1 (e ▸ hb); exact h2 (e ▸ hb)))
theorem zaG {w : World} {r0 r1 r2 : Nat} {v0 v1 v2 v3 v4 : Value} (b : Nat) (h0 : b ≠ r0) (h1 : b ≠ r1) (h2 : b ≠ r2) :
  (((((w.setCell ⟨r0, 0, none⟩ v0).setCell ⟨r1, 0, none⟩ v1).setCell ⟨r1, 1, none⟩ v2).setCell ⟨r2, 0, none⟩ v3).setCell ⟨r2, 1, none⟩ v4).heap[b]? = w.heap[b]? :=
 (Below.heap_setCell _ _ _ _ h2).trans ((Below.heap_setCell _ _ _ _ h2).trans ((Below.heap_setCell _ _ _ _ h1).trans ((Below.heap_setCell _ _ _ _ h1).trans (Below.heap_setCell _ _ _ _ h0))))
/-- What l5Draw gives. -/
def Drawn5 (B : Nat) (e : Ending) (w' : World) : Prop := ∃ (s : Sg) (es : List Eqn) (a b : Tm) (sa : Option Addr) (sc : Nat) (ev : Value) (ka : Option Addr) (kc : Nat) (kb : Option Addr) (kd : Nat) (sf ef fa fb : List Nat),
 s.few ∧ es.length ≤ 13 ∧ (∀ q ∈ es, q.a.size ≤ 45 ∧ q.b.size ≤ 45) ∧ a.size ≤ 45 ∧ b.size ≤ 45 ∧ e = .returned (.tuple #[.agg #[.slice sa s.syms.length sc], ev, .agg #[.string a.name, .slice ka a.kids.length kc], .agg #[.string b.name, .slice kb b.kids.length kd]]) ∧
 RdVs w' s.cd [.slice sa s.syms.length sc] sf ∧ Rd w' (.sl (es.map Eqn.cd)) ev ef ∧ RdVs w' a.cd [.string a.name, .slice ka a.kids.length kc] fa ∧ RdVs w' b.cd [.string b.name, .slice kb b.kids.length kd] fb ∧ ∀ x, x ∈ sf ∨ x ∈ ef ∨ x ∈ fa ∨ x ∈ fb → B ≤ x
theorem zef (v : Value) (w : World) (hv : Byts w v) :
  Calls Tryz.prog 45 #[v] w fun e w' => Drawn5 w.heap.size e w' ∧ Below w.heap.size w w' := by
 have hB0 : Below w.heap.size w (((w.alloc (.cells #[.slice none 0 0] 25)).alloc (.cells #[.string ⟨#[]⟩, .slice none 0 0] 29)).alloc (.cells #[.string ⟨#[]⟩, .slice none 0 0] 29)) := (((Below.refl _ _).alloc (Nat.le_refl _) _).alloc (by simp) _).alloc (by simp; omega) _
 have r0 : (((w.alloc (.cells #[.slice none 0 0] 25)).alloc (.cells #[.string ⟨#[]⟩, .slice none 0 0] 29)).alloc (.cells #[.string ⟨#[]⟩, .slice none 0 0] 29)).cell? ⟨w.heap.size, 0, none⟩ = some (.slice none 0 0) := zz (zz (zg w [.slice none 0 0] _ 0 _ rfl))
 have r1 : (((w.alloc (.cells #[.slice none 0 0] 25)).alloc (.cells #[.string ⟨#[]⟩, .slice none 0 0] 29)).alloc (.cells #[.string ⟨#[]⟩, .slice none 0 0] 29)).cell? ⟨w.heap.size + 1, 0, none⟩ = some (.string ⟨#[]⟩) := by
  have h := zg (w.alloc (.cells #[.slice none 0 0] 25)) [.string ⟨#[]⟩, .slice none 0 0] 29 0 _ rfl
  rw [World.size_alloc] at h; exact zz h
 have r2 : (((w.alloc (.cells #[.slice none 0 0] 25)).alloc (.cells #[.string ⟨#[]⟩, .slice none 0 0] 29)).alloc (.cells #[.string ⟨#[]⟩, .slice none 0 0] 29)).cell? ⟨w.heap.size + 1, 1, none⟩ = some (.slice none 0 0) := by
  have h := zg (w.alloc (.cells #[.slice none 0 0] 25)) [.string ⟨#[]⟩, .slice none 0 0] 29 1 _ rfl
  rw [World.size_alloc] at h; exact zz h
 have r3 : (((w.alloc (.cells #[.slice none 0 0] 25)).alloc (.cells #[.string ⟨#[]⟩, .slice none 0 0] 29)).alloc (.cells #[.string ⟨#[]⟩, .slice none 0 0] 29)).cell? ⟨w.heap.size + 1 + 1, 0, none⟩ = some (.string ⟨#[]⟩) := by
  have h := zg ((w.alloc (.cells #[.slice none 0 0] 25)).alloc (.cells #[.string ⟨#[]⟩, .slice none 0 0] 29)) [.string ⟨#[]⟩, .slice none 0 0] 29 0 _ rfl
  rw [World.size_alloc, World.size_alloc] at h; exact h
 have r4 : (((w.alloc (.cells #[.slice none 0 0] 25)).alloc (.cells #[.string ⟨#[]⟩, .slice none 0 0] 29)).alloc (.cells #[.string ⟨#[]⟩, .slice none 0 0] 29)).cell? ⟨w.heap.size + 1 + 1, 1, none⟩ = some (.slice none 0 0) := by
  have h := zg ((w.alloc (.cells #[.slice none 0 0] 25)).alloc (.cells #[.string ⟨#[]⟩, .slice none 0 0] 29)) [.string ⟨#[]⟩, .slice none 0 0] 29 1 _ rfl
  rw [World.size_alloc, World.size_alloc] at h; exact h
 have q0 : ∀ j, (((w.alloc (.cells #[.slice none 0 0] 25)).alloc (.cells #[.string ⟨#[]⟩, .slice none 0 0] 29)).alloc (.cells #[.string ⟨#[]⟩, .slice none 0 0] 29)).frozen? ⟨w.heap.size, j, none⟩ = false := fun j => (zc (heap_alloc_old _ _ (by simp; omega))).trans ((zc (heap_alloc_old _ _ (by simp))).trans (zJ w _ _ j))
 have q1 : ∀ j, (((w.alloc (.cells #[.slice none 0 0] 25)).alloc (.cells #[.string ⟨#[]⟩, .slice none 0 0] 29)).alloc (.cells #[.string ⟨#[]⟩, .slice none 0 0] 29)).frozen? ⟨w.heap.size + 1, j, none⟩ = false := fun j => by
  have h := zJ (w.alloc (.cells #[.slice none 0 0] 25)) #[.string ⟨#[]⟩, .slice none 0 0] 29 j
  rw [World.size_alloc] at h; exact (zc (heap_alloc_old _ _ (by simp))).trans h
 have q2 : ∀ j, (((w.alloc (.cells #[.slice none 0 0] 25)).alloc (.cells #[.string ⟨#[]⟩, .slice none 0 0] 29)).alloc (.cells #[.string ⟨#[]⟩, .slice none 0 0] 29)).frozen? ⟨w.heap.size + 1 + 1, j, none⟩ = false := fun j => by
  have h := zJ ((w.alloc (.cells #[.slice none 0 0] 25)).alloc (.cells #[.string ⟨#[]⟩, .slice none 0 0] 29)) #[.string ⟨#[]⟩, .slice none 0 0] 29 j
  rw [World.size_alloc, World.size_alloc] at h; exact h
 have f0 := q0 0
 have f1 := q1 0
 have f2 := q1 1
 have f3 := q2 0
 have f4 := q2 1
 clear q0 q1 q2
 have hsW : (((w.alloc (.cells #[.slice none 0 0] 25)).alloc (.cells #[.string ⟨#[]⟩, .slice none 0 0] 29)).alloc (.cells #[.string ⟨#[]⟩, .slice none 0 0] 29)).heap.size = w.heap.size + 1 + 1 + 1 := by simp
 go_enter Tryz.func45, Tryz.ntmps45
 go_wp2_with fail
 generalize (((w.alloc (.cells #[.slice none 0 0] 25)).alloc (.cells #[.string ⟨#[]⟩, .slice none 0 0] 29)).alloc (.cells #[.string ⟨#[]⟩, .slice none 0 0] 29)) = W at *
 refine (zau v _ (by exact hv.below hB0)).mono ?_
 rintro e u1 ⟨rfl, hu1, hb1⟩
 have hz1 := hb1.size
 replace r0 := za r0 hb1
 replace f0 := (zc (hb1.block _ (by omega))).trans f0
 replace r1 := za r1 hb1
 replace f1 := (zc (hb1.block _ (by omega))).trans f1
 replace r2 := za r2 hb1
 replace f2 := (zc (hb1.block _ (by omega))).trans f2
 replace r3 := za r3 hb1
 replace f3 := (zc (hb1.block _ (by omega))).trans f3
 replace r4 := za r4 hb1
 replace f4 := (zc (hb1.block _ (by omega))).trans f4
 obtain ⟨rb, hrb⟩ : ∃ rb, rb = W.heap.size := ⟨_, rfl⟩
 rw [← hrb] at hu1
 rw [← hrb]
 have hB1 := hB0.trans (hb1.mono hB0.size)
 have hw1 : w.heap.size + 1 + 1 + 1 ≤ rb := by omega
 clear hrb hb1 hB0 hsW hz1
 have hl1 := hu1.lt
 go_wp2_with fail
 refine (l4Sig_any rb 0 _ (by omega) hu1).mono ?_
 rintro e u2 ⟨⟨s, vs, sf, hfew, rfl, hrd, hsf⟩, hu2, ho2⟩
 obtain ⟨a0, c0, g0, rfl, rfl, m0⟩ := Sg.open hrd
 have hnr : rb ∉ sf := fun h => by have := hsf _ h; omega
 have hsl := RdVs.lt _ hrd
 have hl2 := hu2.lt
 have hz2 := ho2.size
 replace r0 := ho2.cellk r0 (by omega)
 replace f0 := ho2.free f0 (by omega) (by omega)
 replace r1 := ho2.cellk r1 (by omega)
 replace f1 := ho2.free f1 (by omega) (by omega)
 replace r2 := ho2.cellk r2 (by omega)
 replace f2 := ho2.free f2 (by omega) (by omega)
 replace r3 := ho2.cellk r3 (by omega)
 replace f3 := ho2.free f3 (by omega) (by omega)
 replace r4 := ho2.cellk r4 (by omega)
 replace f4 := ho2.free f4 (by omega) (by omega)
 have hN := ho2
 clear hu1 ho2 m0
 have hba := zb u2 (.cells #[.slice a0 s.syms.length c0] 25)
 have x0 := zg u2 [.slice a0 s.syms.length c0] 25 0 _ rfl
 have hz2a : (u2.alloc (.cells #[.slice a0 s.syms.length c0] 25)).heap.size = u2.heap.size + 1 := by simp
 go_wp2_with fail
 refine (l5Eqs_any s _ sf rb (0 + 1) _ (by omega) hfew (by exact hrd.below hba) hnr (by exact hu2.below hba)).mono ?_
 rintro e u3 ⟨⟨es, ev, ef, hel, hes, rfl, hown, hef⟩, hu3, ho3⟩
 rw [hz2a] at hown hef
 have hz3 := ho3.size
 rw [hz2a] at hz3
 have hN3 := (Only.below hba).trans ho3
 replace r0 := hN3.cellk r0 (by omega)
 replace f0 := hN3.free f0 (by omega) (by omega)
 replace r1 := hN3.cellk r1 (by omega)
 replace f1 := hN3.free f1 (by omega) (by omega)
 replace r2 := hN3.cellk r2 (by omega)
 replace f2 := hN3.free f2 (by omega) (by omega)
 replace r3 := hN3.cellk r3 (by omega)
 replace f3 := hN3.free f3 (by omega) (by omega)
 replace r4 := hN3.cellk r4 (by omega)
 replace f4 := hN3.free f4 (by omega) (by omega)
 replace x0 := ho3.cellk x0 (by omega)
 have hrd3 := hrd.only hN3 hnr
 replace hN := hN.trans hN3
 have hl3 := hu3.lt
 obtain ⟨g, hg1, hg2⟩ : ∃ g, (∀ b, ev.ownBlock = some b → b = g) ∧ (g = rb ∨ (u2.heap.size + 1 ≤ g ∧ g < u3.heap.size)) := by
  cases h : ev.ownBlock with
  | none => exact ⟨rb, by simp, .inl rfl⟩
  | some q => exact ⟨q, fun b hb => (Option.some.inj hb).symm, .inr (hown.block h)⟩
 have hefl := hown.lt
 obtain ⟨er, her⟩ := hown.rd'
 have hefr : rb ∉ ef := fun h => by have := hef _ h; omega
 clear ho3 hN3 hba hrd hu2
 have hes45 : ∀ q ∈ es, q.a.size ≤ 45 ∧ q.b.size ≤ 45 := fun q hq => by have := hes q hq; omega
 have HES := Lib.hid hes
 have HES45 := Lib.hid hes45
 clear hes hes45
 go_wp2_with fail
 refine (zci s es _ sf _ er rb (0 + 1 + 200) _ (by omega) hfew hel HES.out (by exact hrd3) hnr (by exact hu3) (by exact her)).mono ?_
 rintro e u4 ⟨⟨t, tv, fa, ht, rfl, hrt, hfa⟩, hu4, ho4⟩
 obtain ⟨ka, kc, _, he4, _, n0, _⟩ := Tm.open hrt
 simp only [List.cons.injEq, true_and, and_true] at he4
 subst he4
 have hz4 := ho4.size
 replace r0 := ho4.cellk r0 (by omega)
 replace f0 := ho4.free f0 (by omega) (by omega)
 replace r1 := ho4.cellk r1 (by omega)
 replace f1 := ho4.free f1 (by omega) (by omega)
 replace r2 := ho4.cellk r2 (by omega)
 replace f2 := ho4.free f2 (by omega) (by omega)
 replace r3 := ho4.cellk r3 (by omega)
 replace f3 := ho4.free f3 (by omega) (by omega)
 replace r4 := ho4.cellk r4 (by omega)
 replace f4 := ho4.free f4 (by omega) (by omega)
 replace x0 := ho4.cellk x0 (by omega)
 have hrd4 := hrd3.only ho4 hnr
 have hown4 := hown.only ho4 (by omega) hefr
 obtain ⟨er4, her4⟩ := hown4.rd'
 replace hN := hN.trans ho4
 have hl4 := hu4.lt
 have hfal := RdVs.lt _ hrt
 clear ho4 hu3 hrd3 hown her
 have hbt := zb u4 (.cells #[.string t.name, .slice ka t.kids.length kc] 29)
 have y0 := zg u4 [.string t.name, .slice ka t.kids.length kc] 29 0 _ rfl
 have y1 := zg u4 [.string t.name, .slice ka t.kids.length kc] 29 1 _ rfl
 have hz4a : (u4.alloc (.cells #[.string t.name, .slice ka t.kids.length kc] 29)).heap.size = u4.heap.size + 1 := by simp
 have x0a := zz (o := (.cells #[.string t.name, .slice ka t.kids.length kc] 29)) x0
 go_wp2_with fail
 refine (zci s es _ sf _ er4 rb (0 + 1 + 200 + 30) _ (by omega) hfew hel HES.out (by exact hrd4.below hbt) hnr (by exact hu4.below hbt) (by exact her4.below hbt)).mono ?_
 clear x0a
 rintro e u5 ⟨⟨t2, tv2, fb, ht2, rfl, hrt2, hfb⟩, hu5, ho5⟩
 rw [hz4a] at hfb
 obtain ⟨kb, kd, _, he5, _, n2, _⟩ := Tm.open hrt2
 simp only [List.cons.injEq, true_and, and_true] at he5
 subst he5
 have hz5 := ho5.size
 rw [hz4a] at hz5
 have hN5 := (Only.below hbt).trans ho5
 replace r0 := hN5.cellk r0 (by omega)
 replace f0 := hN5.free f0 (by omega) (by omega)
 replace r1 := hN5.cellk r1 (by omega)
 replace f1 := hN5.free f1 (by omega) (by omega)
 replace r2 := hN5.cellk r2 (by omega)
 replace f2 := hN5.free f2 (by omega) (by omega)
 replace r3 := hN5.cellk r3 (by omega)
 replace f3 := hN5.free f3 (by omega) (by omega)
 replace r4 := hN5.cellk r4 (by omega)
 replace f4 := hN5.free f4 (by omega) (by omega)
 replace x0 := hN5.cellk x0 (by omega)
 replace y0 := ho5.cellk y0 (by omega)
 replace y1 := ho5.cellk y1 (by omega)
 have hrd5 := hrd4.only hN5 hnr
 have hown5 := hown4.only hN5 (by omega) hefr
 have hrt5 := hrt.only hN5 (fun h => by have := hfa _ h; omega)
 replace hN := hN.trans hN5
 have hl5 := hu5.lt
 have hfbl := RdVs.lt _ hrt2
 clear ho5 hN5 hu4 hrd4 hown4 her4 hrt hbt
 have hbt := zb u5 (.cells #[.string t2.name, .slice kb t2.kids.length kd] 29)
 have k0 := zg u5 [.string t2.name, .slice kb t2.kids.length kd] 29 0 _ rfl
 have k1 := zg u5 [.string t2.name, .slice kb t2.kids.length kd] 29 1 _ rfl
 have hz5a : (u5.alloc (.cells #[.string t2.name, .slice kb t2.kids.length kd] 29)).heap.size = u5.heap.size + 1 := by simp
 replace r0 := za r0 hbt
 replace f0 := (zc (hbt.block _ (by omega))).trans f0
 replace r1 := za r1 hbt
 replace f1 := (zc (hbt.block _ (by omega))).trans f1
 replace r2 := za r2 hbt
 replace f2 := (zc (hbt.block _ (by omega))).trans f2
 replace r3 := za r3 hbt
 replace f3 := (zc (hbt.block _ (by omega))).trans f3
 replace r4 := za r4 hbt
 replace f4 := (zc (hbt.block _ (by omega))).trans f4
 replace x0 := za x0 hbt
 replace y0 := za y0 hbt
 replace y1 := za y1 hbt
 replace hrd5 := hrd5.below hbt
 replace hown5 := hown5.below hbt
 replace hrt5 := hrt5.below hbt
 replace hrt2 := hrt2.below hbt
 replace hu5 := hu5.below hbt
 replace hN := hN.trans (Only.below hbt)
 have hB5 : Below w.heap.size w (u5.alloc (.cells #[.string t2.name, .slice kb t2.kids.length kd] 29)) := hB1.trans (hN.toBelow hB1.size (fun b hb => by simp at hb; omega))
 clear hbt hN hB1
 go_wp2_with fail
 generalize u5.alloc (.cells #[.string t2.name, .slice kb t2.kids.length kd] 29) = w5 at *
 have hw5 := hB5.size
 go_region_held3 (fun U => U.cell? ⟨u2.heap.size, 0, none⟩ = some (.slice a0 s.syms.length c0) ∧ U.cell? ⟨u4.heap.size, 0, none⟩ = some (.string t.name) ∧ U.cell? ⟨u4.heap.size, 1, none⟩ = some (.slice ka t.kids.length kc) ∧ U.cell? ⟨u5.heap.size, 0, none⟩ = some (.string t2.name) ∧ U.cell? ⟨u5.heap.size, 1, none⟩ = some (.slice kb t2.kids.length kd))
  ((refine ⟨?_, ?_, ?_, ?_, ?_⟩) <;> ((repeat (first | with_reducible assumption | ((with_reducible refine (World.cell?_setCell_other _ _ _ _ ?_).trans ?_); (focus (intro e; simp only [Addr.mk.injEq] at e; omega))) | with_reducible refine zaF ?_ | with_reducible exact ho6.cell2 x0 (by omega) (by omega) | with_reducible exact ho6.cell2 y0 (by omega) (by omega) | with_reducible exact ho6.cell2 y1 (by omega) (by omega) | with_reducible exact ho6.cell2 k0 (by omega) (by omega) | with_reducible exact ho6.cell2 k1 (by omega) (by omega))); done))
  (first | (go_at_call 73; (with_reducible refine (zee s es _ sf _ ef (u2.heap.size + 1) rb (0 + 1 + 200 + 30 + 30) g _ (by omega) hfew hel HES45.out ?_ hnr ?_ (by omega) ?_ ?_ hef hg1).mono ?_); exact hrd5.below (zi _); exact hu5.below (zi _); (show u2.heap.size + 1 ≤ w5.heap.size; omega); exact hown5.below (zi _); rintro e w6 ⟨⟨es6, ev6, ef6, hl6, hs6, rfl, hr6, hf6⟩, hu6, ho6'⟩; have ho6 : Only [rb, g] w5 w6 := ((Only.below (zi w5)).trans ho6'); have hz6 := ho6.size; have d0 := ho6.cell2 r0 (by omega) (by omega); have e0 := ho6.free2 f0 (by omega) (by omega) (by omega); have d1 := ho6.cell2 r1 (by omega) (by omega); have e1 := ho6.free2 f1 (by omega) (by omega) (by omega); have d2 := ho6.cell2 r2 (by omega) (by omega); have e2 := ho6.free2 f2 (by omega) (by omega) (by omega); have d3 := ho6.cell2 r3 (by omega) (by omega); have e3 := ho6.free2 f3 (by omega) (by omega) (by omega); have d4 := ho6.cell2 r4 (by omega) (by omega); have e4 := ho6.free2 f4 (by omega) (by omega) (by omega)))
 all_goals
  have hrdY := hrd5.only2 ho6 hnr (fun h => by have := hsl _ h; have := hsf _ h; omega)
  have hrtY := hrt5.only2 ho6 (fun h => by have := hfa _ h; omega) (fun h => by have := hfa _ h; omega)
  have hrt2Y := hrt2.only2 ho6 (fun h => by have := hfb _ h; omega) (fun h => by have := hfb _ h; omega)
  have hB6 : Below w.heap.size w w6 := hB5.trans (ho6.toBelow (by omega) (fun b hb => by simp at hb; omega))
  clear hrd5 hrt5 hrt2 hown5 hu5 hu6 ho6 hB5 r0 r1 r2 r3 r4 f0 f1 f2 f3 f4 x0 y0 y1 k0 k1
  go_wp2_with fail
  refine bodyPost_ret (v := .tuple #[.agg #[.slice a0 s.syms.length c0], ev6, .agg #[.string t.name, .slice ka t.kids.length kc], .agg #[.string t2.name, .slice kb t2.kids.length kd]]) ?_ rfl ?_
  ·simp [results, Tryz.results45, go_sem, d0, d1, d2, d3, d4]
  ·refine ⟨⟨s, es6, t, t2, a0, c0, ev6, ka, kc, kb, kd, sf, ef6, fa, fb, hfew, hl6, hs6, ht, ht2, rfl, hrdY.same _ ?_, hr6.same _ ?_, hrtY.same _ ?_, hrt2Y.same _ ?_, fun x hx => ?_⟩, ?_⟩
   ·exact fun b hb => by have := hsf b hb; exact zaG b (by omega) (by omega) (by omega)
   ·exact fun b hb => by have := hf6 b hb; exact zaG b (by omega) (by omega) (by omega)
   ·exact fun b hb => by have := hfa b hb; exact zaG b (by omega) (by omega) (by omega)
   ·exact fun b hb => by have := hfb b hb; exact zaG b (by omega) (by omega) (by omega)
   ·rcases hx with h | h | h | h
    ·have := hsf x h; omega
    ·have := hf6 x h; omega
    ·have := hfa x h; omega
    ·have := hfb x h; omega
   ·refine Below.setCell (Below.setCell (Below.setCell (Below.setCell (Below.setCell hB6 ?_ _) ?_ _) ?_ _) ?_ _) ?_ _ <;> simp <;> omega
end Go.Proofs.YtlefdhhnlbpbkaaGreat
end
