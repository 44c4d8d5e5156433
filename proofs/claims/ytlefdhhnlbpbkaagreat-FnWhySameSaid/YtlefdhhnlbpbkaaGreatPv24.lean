/- Parts of the proof: Rdr9. -/
import Derived.Deep.RegionHeld3
import Derived.Deep.CutRange
import Derived.Test.YtlefdhhnlbpbkaaGreatPv20
import Derived.Test.YtlefdhhnlbpbkaaGreatPv16
import Derived.Test.YtlefdhhnlbpbkaaGreatPv22
section
namespace Go.Proofs.YtlefdhhnlbpbkaaGreat
open Go Go.RowKit
set_option linter.unusedVariables false
set_option linter.unusedSimpArgs false
set_option maxRecDepth 100000
set_option maxHeartbeats 16000000
theorem stored4 {w : World} {b : Nat} {u0 u1 u2 u3 : Value} (v0 v1 v2 v3 : Value) (h0 : w.cell? ⟨b, 0, none⟩ = some u0) (h1 : w.cell? ⟨b, 1, none⟩ = some u1) (h2 : w.cell? ⟨b, 2, none⟩ = some u2) (h3 : w.cell? ⟨b, 3, none⟩ = some u3) :
  ((((w.setCell ⟨b, 0, none⟩ v0).setCell ⟨b, 1, none⟩ v1).setCell ⟨b, 2, none⟩ v2).setCell ⟨b, 3, none⟩ v3).cell? ⟨b, 0, none⟩ = some v0 ∧ ((((w.setCell ⟨b, 0, none⟩ v0).setCell ⟨b, 1, none⟩ v1).setCell ⟨b, 2, none⟩ v2).setCell ⟨b, 3, none⟩ v3).cell? ⟨b, 1, none⟩ = some v1 ∧
  ((((w.setCell ⟨b, 0, none⟩ v0).setCell ⟨b, 1, none⟩ v1).setCell ⟨b, 2, none⟩ v2).setCell ⟨b, 3, none⟩ v3).cell? ⟨b, 2, none⟩ = some v2 ∧ ((((w.setCell ⟨b, 0, none⟩ v0).setCell ⟨b, 1, none⟩ v1).setCell ⟨b, 2, none⟩ v2).setCell ⟨b, 3, none⟩ v3).cell? ⟨b, 3, none⟩ = some v3 := by
 refine ⟨?_, ?_, ?_, ?_⟩
 ·rw [World.cell?_setCell_other _ _ _ _ (by simp), World.cell?_setCell_other _ _ _ _ (by simp), World.cell?_setCell_other _ _ _ _ (by simp)]; exact World.cell?_setCell_same _ _ _ h0
 ·rw [World.cell?_setCell_other _ _ _ _ (by simp), World.cell?_setCell_other _ _ _ _ (by simp)]
  refine World.cell?_setCell_same _ _ _ (u := u1) ?_
  rw [World.cell?_setCell_other _ _ _ _ (by simp)]; exact h1
 ·rw [World.cell?_setCell_other _ _ _ _ (by simp)]
  refine World.cell?_setCell_same _ _ _ (u := u2) ?_
  rw [World.cell?_setCell_other _ _ _ _ (by simp), World.cell?_setCell_other _ _ _ _ (by simp)]; exact h2
 ·refine World.cell?_setCell_same _ _ _ (u := u3) ?_
  rw [World.cell?_setCell_other _ _ _ _ (by simp), World.cell?_setCell_other _ _ _ _ (by simp), World.cell?_setCell_other _ _ _ _ (by simp)]; exact h3
/-- A variable of the call's own, that holds a drawn equation. -/
def VarEq (rb B : Nat) (v : Value) (w : World) : Prop := ∃ (bt : Nat) (q : Eqn) (ka : Option Addr) (kc : Nat) (kb : Option Addr) (kd : Nat) (f : List Nat), v = .pointer (some ⟨bt, 0, none⟩) ∧ q.a.size ≤ 7 ∧ q.b.size ≤ 7 ∧ B ≤ bt ∧
 RdVs w q.cd [.string q.a.name, .slice ka q.a.kids.length kc, .string q.b.name, .slice kb q.b.kids.length kd] f ∧ (∀ b ∈ f, B ≤ b) ∧ bt ∉ f ∧ Lst rb [.string q.a.name, .slice ka q.a.kids.length kc, .string q.b.name, .slice kb q.b.kids.length kd] bt w
theorem zed {w : World} {rb B T : Nat} {q : Eqn} {ka kb : Option Addr} {kc kd : Nat} {f : List Nat} (h1 : q.a.size ≤ 7) (h2 : q.b.size ≤ 7) (hB : B ≤ w.heap.size) (hr : RdVs w q.cd [.string q.a.name, .slice ka q.a.kids.length kc, .string q.b.name, .slice kb q.b.kids.length kd] f) (hf : ∀ b ∈ f, B ≤ b) (hrb : rb < w.heap.size) :
  VarEq rb B (.pointer (some ⟨w.heap.size, 0, none⟩)) (w.alloc (.cells #[.string q.a.name, .slice ka q.a.kids.length kc, .string q.b.name, .slice kb q.b.kids.length kd] T)) :=
 ⟨_, q, ka, kc, kb, kd, f, rfl, h1, h2, hB, hr.below (zb _ _), hf, fun h => by have := RdVs.lt q.cd hr _ h; omega, Lst.new hrb _ _⟩
theorem varEq_mid {w : World} {rb B bt : Nat} {q : Eqn} {ka kb : Option Addr} {kc kd : Nat} {f : List Nat} (h1 : q.a.size ≤ 7) (h2 : q.b.size ≤ 7) (hB : B ≤ bt) (hr : RdVs w q.cd [.string q.a.name, .slice ka q.a.kids.length kc, .string q.b.name, .slice kb q.b.kids.length kd] f) (hf : ∀ b ∈ f, B ≤ b) (hn : bt ∉ f) (hv : Lst rb [.string ⟨#[]⟩, .slice none 0 0, .string ⟨#[]⟩, .slice none 0 0] bt w) :
  VarEq rb B (.pointer (some ⟨bt, 0, none⟩)) ((((w.setCell ⟨bt, 0, none⟩ (.string q.a.name)).setCell ⟨bt, 1, none⟩ (.slice ka q.a.kids.length kc)).setCell ⟨bt, 2, none⟩ (.string q.b.name)).setCell ⟨bt, 3, none⟩ (.slice kb q.b.kids.length kd)) := by
 obtain ⟨g1, g2, g3, g4⟩ := hv
 have hne : ∀ x ∈ f, x ≠ bt := fun x hx e => hn (e ▸ hx)
 have hs := (((zw (a := ⟨bt, 0, none⟩) (v := .string q.a.name) (w := w) hne).trans (zw (a := ⟨bt, 1, none⟩) (v := .slice ka q.a.kids.length kc) hne)).trans (zw (a := ⟨bt, 2, none⟩) (v := .string q.b.name) hne)).trans (zw (a := ⟨bt, 3, none⟩) (v := .slice kb q.b.kids.length kd) hne)
 have c0 := g3 0 _ rfl
 have c1 := g3 1 _ rfl
 have c2 := g3 2 _ rfl
 have c3 := g3 3 _ rfl
 have e0 := stored4 (.string q.a.name) (.slice ka q.a.kids.length kc) (.string q.b.name) (.slice kb q.b.kids.length kd) c0 c1 c2 c3
 refine ⟨bt, q, ka, kc, kb, kd, f, rfl, h1, h2, hB, hr.same _ hs, hf, hn, g1, by simpa [World.setCell] using g2, fun j u hu => ?_, fun j => by rw [World.frozen?_setCell, World.frozen?_setCell, World.frozen?_setCell, World.frozen?_setCell]; exact g4 j⟩
 match j, hu with
 | 0, hu => obtain rfl := Option.some.inj hu; exact e0.1
 | 1, hu => obtain rfl := Option.some.inj hu; exact e0.2.1
 | 2, hu => obtain rfl := Option.some.inj hu; exact e0.2.2.1
 | 3, hu => obtain rfl := Option.some.inj hu; exact e0.2.2.2
 | j + 4, hu => simp at hu
theorem num_n (n : Nat) (xs : List Int) (vs : List Value) (hn : n = xs.length) (hv : vs = xs.map (Value.int .i64)) (rb p lb : Nat) (w : World) (hp : p ≤ 1000000000) (h0 : 1 ≤ xs.length) (h1 : xs.length ≤ 1000) (hl : Lst rb vs lb w) (h : Rdr w rb p) :
  Calls Tryz.prog 22 #[.pointer (some ⟨rb, 0, none⟩), .slice (some ⟨lb, 0, none⟩) n n] w fun e w' => (∃ x, x ∈ xs ∧ e = .returned (.int .i64 x)) ∧ Rdr w' rb (p + 1) ∧ Only [rb] w w' := by
 subst hn; exact num_l xs vs hv rb p lb w hp h0 h1 hl h
theorem Lst.new2 {w : World} {rb : Nat} (h : rb < w.heap.size) (o o' : Obj) (vs : List Value) (T : TypeId) : Lst rb vs (w.heap.size + 1 + 1) (((w.alloc o).alloc o').alloc (.cells vs.toArray T)) := by
 have h1 := Lst.new1 (w := w.alloc o) (rb := rb) (by rw [World.size_alloc]; omega) o' vs T
 rw [World.size_alloc] at h1; exact h1
theorem zc2 (es : List Eqn) (n : Nat) (h : ∀ e ∈ es, e.a.size + e.b.size ≤ n) : Tm.sizes (zj es) ≤ es.length * n := by
 induction es with
 | nil => simp [zj, Tm.sizes]
 | cons e es ih =>
  have h1 := h e (by simp)
  have h2 := ih (fun x hx => h x (by simp [hx]))
  have h3 : zj (e :: es) = [e.a, e.b] ++ zj es := rfl
  rw [h3, Tm.sizes_append, List.length_cons, Nat.add_mul]
  simp only [Tm.sizes]; omega
/-- Equations that are drawn: few, small, their row the call's own. -/
def DrawnEqs (w : World) (e : Ending) (w' : World) : Prop := ∃ (es : List Eqn) (v : Value) (fp : List Nat), es.length ≤ 5 ∧ (∀ q ∈ es, q.a.size ≤ 7 ∧ q.b.size ≤ 7) ∧ e = .returned v ∧ Own w' w.heap.size 36 4 v (es.map Eqn.cd) fp ∧ ∀ b ∈ fp, w.heap.size ≤ b
theorem l5Eqs_any (s : Sg) (vs : List Value) (sf : List Nat) (rb p : Nat) (w : World) (hp : p + 300 ≤ 1000000000) (hfew : s.few) (hrd : RdVs w s.cd vs sf) (hnr : rb ∉ sf) (hr : Rdr w rb p) :
  Calls Tryz.prog 71 #[.pointer (some ⟨rb, 0, none⟩), .agg vs.toArray] w fun e w' => DrawnEqs w e w' ∧ Rdr w' rb (p + 200) ∧ Only [rb] w w' := by
 obtain ⟨a0, c0, f0, rfl, rfl, m0⟩ := Sg.open hrd
 have hlt := hr.lt
 have hB3 : Below w.heap.size w (((w.alloc (.cells #[.slice a0 s.syms.length c0] 25)).alloc (.cells #[] 36)).alloc (.cells #[.int .i64 2, .int .i64 3, .int .i64 4, .int .i64 1, .int .i64 0, .int .i64 5] 3)) := (((Below.refl _ _).alloc (Nat.le_refl _) _).alloc (by simp) _).alloc (by simp; omega) _
 have hl : Lst rb [.int .i64 2, .int .i64 3, .int .i64 4, .int .i64 1, .int .i64 0, .int .i64 5] (w.heap.size + 1 + 1) (((w.alloc (.cells #[.slice a0 s.syms.length c0] 25)).alloc (.cells #[] 36)).alloc (.cells #[.int .i64 2, .int .i64 3, .int .i64 4, .int .i64 1, .int .i64 0, .int .i64 5] 3)) := by
  have := Lst.new (w := (w.alloc (.cells #[.slice a0 s.syms.length c0] 25)).alloc (.cells #[] 36)) (rb := rb) (by simp; omega) [.int .i64 2, .int .i64 3, .int .i64 4, .int .i64 1, .int .i64 0, .int .i64 5] 3
  simpa using this
 have hown0 : Own (((w.alloc (.cells #[.slice a0 s.syms.length c0] 25)).alloc (.cells #[] 36)).alloc (.cells #[.int .i64 2, .int .i64 3, .int .i64 4, .int .i64 1, .int .i64 0, .int .i64 5] 3)) (w.heap.size + 1) 36 4 (.slice (some ⟨w.heap.size + 1, 0, none⟩) 0 0) (([] : List Eqn).map Eqn.cd) [] := by
  have := (Own.empty (w.alloc (.cells #[.slice a0 s.syms.length c0] 25)) (w.heap.size + 1) 36 4 (by simp)).below (zb _ (.cells #[.int .i64 2, .int .i64 3, .int .i64 4, .int .i64 1, .int .i64 0, .int .i64 5] 3))
  simpa using this
 have x0 : (((w.alloc (.cells #[.slice a0 s.syms.length c0] 25)).alloc (.cells #[] 36)).alloc (.cells #[.int .i64 2, .int .i64 3, .int .i64 4, .int .i64 1, .int .i64 0, .int .i64 5] 3)).cell? ⟨w.heap.size, 0, none⟩ = some (.slice a0 s.syms.length c0) := zz (zz (zv w _ _ 0))
 go_enter Tryz.func71, Tryz.ntmps71
 go_wp2_with fail
 generalize ((w.alloc (.cells #[.slice a0 s.syms.length c0] 25)).alloc (.cells #[] 36)).alloc (.cells #[.int .i64 2, .int .i64 3, .int .i64 4, .int .i64 1, .int .i64 0, .int .i64 5] 3) = W0 at *
 refine (num_l [2, 3, 4, 1, 0, 5] [.int .i64 2, .int .i64 3, .int .i64 4, .int .i64 1, .int .i64 0, .int .i64 5] rfl rb p _ _ (by omega) (by simp) (by simp) hl (hr.below hB3)).mono ?_
 rintro e w1 ⟨⟨m0', hm0, rfl⟩, hr1, ho1⟩
 obtain ⟨m, rfl, hm5⟩ : ∃ m : Nat, m0' = (m : Int) ∧ m ≤ 5 := ⟨m0'.toNat, by simp at hm0; omega, by simp at hm0; omega⟩
 have hN1 : Only [rb] w w1 := (Only.below hB3).trans ho1
 have hz0 := hB3.size
 have hown1 := hown0.only ho1 (by omega) (by simp)
 have x1 := ho1.cellk x0 (by omega)
 clear hm0 hl hown0 x0 hB3 ho1
 go_wp2_with fail
 go_loopw [5, 6] (fun ov i wr => ∃ (m : Nat) (es : List Eqn) (fp : List Nat) (q : Nat), i = .int .i64 m ∧ m + es.length ≤ 5 ∧ q + m * 30 ≤ p + 160 ∧ Own wr (w.heap.size + 1) 36 4 ov (es.map Eqn.cd) fp ∧ Hid (∀ b ∈ fp, w.heap.size ≤ b) ∧ Hid (∀ q ∈ es, q.a.size ≤ 7 ∧ q.b.size ≤ 7) ∧ Rdr wr rb q ∧ Only [rb] w wr ∧ wr.cell? ⟨w.heap.size, 0, none⟩ = some (.slice a0 s.syms.length c0)) (fun _ i _ => (intOf i).toNat)
 case atStart => exact ⟨m, [], [], p + 1, rfl, by simp; omega, by omega, hown1, Lib.hid (by simp), Lib.hid (by simp), hr1, hN1, x1⟩
 case round =>
  clear hown1 hr1 hN1 x1
  obtain ⟨m, es, fp, q, rfl, hml, hq, hown, hfp, hsz, hrr, hN, x0⟩ := hrel
  have hzN := hN.size
  have hwl := World.block_lt_of_cell? _ _ x0
  by_cases hm : (0 : Int) < (m : Int)
  ·have hmb : decide ((0 : Int) < (m : Int)) = true := by simpa using hm
   go_wp2_with fail
   refine (zE rb q 2 _ (by omega) (by omega) (by omega) hrr).mono ?_
   rintro e wq ⟨⟨so, hso, rfl⟩, hr0, ho0⟩
   go_upto_region 6 with fail
   have x2 := ho0.cellk x0 (by omega)
   have hl0 := hr0.lt
   have hrd0 := hrd.only (hN.trans ho0) hnr
   have hown0 := hown.only ho0 (by omega) (fun h => by have := hfp.out _ h; omega)
   have hNq := hN.trans ho0
   have hzq := ho0.size
   have hHQ := Lib.hid (And.intro hown0 (And.intro hNq hown))
   clear hown0 hNq hown hrr x0 ho0 hN hzN
   go_cut [8] from 19 to 33 (fun s8 wx => VarEq rb wq.heap.size s8 wx ∧ Rdr wx rb (q + 25) ∧ Only [rb] wq wx)
   case first =>
    have hN0 : Only [rb] wq wq.drew := Only.below (zi wq)
    go_region_held3 (fun U => U.cell? ⟨w.heap.size, 0, none⟩ = some (.slice a0 s.syms.length c0))
     (((repeat (first | with_reducible assumption | with_reducible exact x2 | with_reducible refine zaF ?_ | with_reducible refine zz ?_ | ((with_reducible refine hN0.cellk x2 ?_); (focus omega)) | ((with_reducible refine hN1.cellk x2 ?_); (focus omega)) | ((with_reducible refine hN2.cellk x2 ?_); (focus omega)) | ((with_reducible refine hN3.cellk x2 ?_); (focus omega)) | ((with_reducible refine hN4.cellk x2 ?_); (focus omega)) | ((with_reducible refine ho1.cellk ?_ ?_); rotate_left; (focus omega)) | ((with_reducible refine ho2.cellk ?_ ?_); rotate_left; (focus omega)) | ((with_reducible refine ho3.cellk ?_ ?_); rotate_left; (focus omega)) | ((with_reducible refine ho4.cellk ?_ ?_); rotate_left; (focus omega)) | ((with_reducible refine (World.cell?_setCell_other _ _ _ _ ?_).trans ?_); (focus (intro e; simp only [Addr.mk.injEq] at e; omega))))); done))
     (first
      | (go_at_call 22; (with_reducible refine (num_n 3 [1, 2, 3] [.int .i64 1, .int .i64 2, .int .i64 3] rfl rfl rb (q + 1) _ _ (by omega) (by simp) (by simp) ?_ ?_).mono ?_); (focus ((repeat (first | with_reducible assumption | ((with_reducible refine Lst.new ?_ _ _); (first | exact hl0 | omega | (simp; omega))) | ((with_reducible refine Lst.new1 ?_ _ _ _); (first | exact hl0 | omega | (simp; omega))) | ((with_reducible refine Lst.new2 ?_ _ _ _ _); (first | exact hl0 | omega | (simp; omega))) | with_reducible refine Lst.drew ?_ | with_reducible refine Lst.alloc ?_ _)); done)); (first | exact hr0 | exact hr0.alloc _ | exact (hr0.alloc _).alloc _ | exact ((hr0.alloc _).alloc _).alloc _); rintro e w1 ⟨⟨d1, hd1, rfl⟩, hr1, ho1⟩; have hN1 : Only [rb] wq w1 := (by first | exact hN0.trans ho1 | exact (hN0.alloc _).trans ho1 | exact ((hN0.alloc _).alloc _).trans ho1 | exact (((hN0.alloc _).alloc _).alloc _).trans ho1); have hl1 := hr1.lt; have hz1 := hN1.size; have hd : 1 ≤ d1 ∧ d1 ≤ 3 := (by simp at hd1; omega); have hsf1 := hrd0.only hN1 hnr; try (first | (refine Lst.use (lb := wq.heap.size) (vs := [.string ⟨#[]⟩, .slice none 0 0, .string ⟨#[]⟩, .slice none 0 0]) ho1 ?_ ?_; (focus ((repeat (first | ((with_reducible refine Lst.new ?_ _ _); exact hl0) | ((with_reducible refine Lst.new1 ?_ _ _ _); exact hl0) | ((with_reducible refine Lst.new2 ?_ _ _ _ _); exact hl0) | with_reducible refine Lst.drew ?_ | with_reducible refine Lst.alloc ?_ _)); done)); intro hvl1 hv1) | (refine Lst.use (lb := (wq.heap.size + 1)) (vs := [.string ⟨#[]⟩, .slice none 0 0, .string ⟨#[]⟩, .slice none 0 0]) ho1 ?_ ?_; (focus ((repeat (first | ((with_reducible refine Lst.new ?_ _ _); exact hl0) | ((with_reducible refine Lst.new1 ?_ _ _ _); exact hl0) | ((with_reducible refine Lst.new2 ?_ _ _ _ _); exact hl0) | with_reducible refine Lst.drew ?_ | with_reducible refine Lst.alloc ?_ _)); done)); intro hvl1 hv1) | (refine Lst.use (lb := (wq.heap.size + 1 + 1)) (vs := [.string ⟨#[]⟩, .slice none 0 0, .string ⟨#[]⟩, .slice none 0 0]) ho1 ?_ ?_; (focus ((repeat (first | ((with_reducible refine Lst.new ?_ _ _); exact hl0) | ((with_reducible refine Lst.new1 ?_ _ _ _); exact hl0) | ((with_reducible refine Lst.new2 ?_ _ _ _ _); exact hl0) | with_reducible refine Lst.drew ?_ | with_reducible refine Lst.alloc ?_ _)); done)); intro hvl1 hv1)))
      | (go_at_call 102; (with_reducible refine (zbF 3 s _ sf _ _ rb (q + 1 + 1) _ hd.1 (by omega) (by omega) (by simp only [pcap]; omega) hfew (by first | exact hsf1 | exact hsf1.below (zb _ _) | exact hsf1.below (((Below.refl _ _).alloc (Nat.le_refl _) _).alloc (by simp) _)) hnr ?_).mono ?_); (first | exact hr1 | exact hr1.alloc _ | exact (hr1.alloc _).alloc _ | exact ((hr1.alloc _).alloc _).alloc _); rintro e w2 ⟨⟨t1, kv1, fo1, hs1, rfl, hnm1, hown1, hfo1⟩, hr2, ho2⟩; have hN2 : Only [rb] wq w2 := (by first | exact hN1.trans ho2 | exact (hN1.alloc _).trans ho2 | exact ((hN1.alloc _).alloc _).trans ho2 | exact (((hN1.alloc _).alloc _).alloc _).trans ho2); have hl2 := hr2.lt; have hz2 := hN2.size; obtain ⟨ka, kc, hkv, hk1, hk2⟩ := hown1.form; rw [zew] at hkv hk1; subst hkv; obtain ⟨fa, hra, hfa, _⟩ := hown1.fresh hfo1; have hfal := hfa.lt; have hsf2 := hrd0.only hN2 hnr; try (first | (refine Lst.use (vs := [.string ⟨#[]⟩, .slice none 0 0, .string ⟨#[]⟩, .slice none 0 0]) ho2 (by first | exact hv1 | exact hv1.alloc _ | exact (hv1.alloc _).alloc _) ?_; intro hvl2 hv2) | (refine Lst.use (lb := w1.heap.size) (vs := [.string ⟨#[]⟩, .slice none 0 0, .string ⟨#[]⟩, .slice none 0 0]) ho2 ?_ ?_; (focus ((repeat (first | ((with_reducible refine Lst.new ?_ _ _); exact hl1) | ((with_reducible refine Lst.new1 ?_ _ _ _); exact hl1) | ((with_reducible refine Lst.new2 ?_ _ _ _ _); exact hl1) | with_reducible refine Lst.drew ?_ | with_reducible refine Lst.alloc ?_ _)); done)); intro hvl2 hv2) | (refine Lst.use (lb := (w1.heap.size + 1)) (vs := [.string ⟨#[]⟩, .slice none 0 0, .string ⟨#[]⟩, .slice none 0 0]) ho2 ?_ ?_; (focus ((repeat (first | ((with_reducible refine Lst.new ?_ _ _); exact hl1) | ((with_reducible refine Lst.new1 ?_ _ _ _); exact hl1) | ((with_reducible refine Lst.new2 ?_ _ _ _ _); exact hl1) | with_reducible refine Lst.drew ?_ | with_reducible refine Lst.alloc ?_ _)); done)); intro hvl2 hv2) | (refine Lst.use (lb := (w1.heap.size + 1 + 1)) (vs := [.string ⟨#[]⟩, .slice none 0 0, .string ⟨#[]⟩, .slice none 0 0]) ho2 ?_ ?_; (focus ((repeat (first | ((with_reducible refine Lst.new ?_ _ _); exact hl1) | ((with_reducible refine Lst.new1 ?_ _ _ _); exact hl1) | ((with_reducible refine Lst.new2 ?_ _ _ _ _); exact hl1) | with_reducible refine Lst.drew ?_ | with_reducible refine Lst.alloc ?_ _)); done)); intro hvl2 hv2)))
      | (go_at_call 22; (with_reducible refine (num_n 2 [1, 2] [.int .i64 1, .int .i64 2] rfl rfl rb (q + 1 + 1 + pcap 3) _ _ (by simp only [pcap]; omega) (by simp) (by simp) ?_ ?_).mono ?_); (focus ((repeat (first | with_reducible assumption | ((with_reducible refine Lst.new ?_ _ _); (first | exact hl0 | exact hl1 | exact hl2 | omega | (simp; omega))) | ((with_reducible refine Lst.new1 ?_ _ _ _); (first | exact hl0 | exact hl1 | exact hl2 | omega | (simp; omega))) | ((with_reducible refine Lst.new2 ?_ _ _ _ _); (first | exact hl0 | exact hl1 | exact hl2 | omega | (simp; omega))) | with_reducible refine Lst.drew ?_ | with_reducible refine Lst.alloc ?_ _ | with_reducible refine Lst.only ?_ ho1 | with_reducible refine Lst.only ?_ ho2)); done)); (first | exact hr2 | exact hr2.alloc _ | exact (hr2.alloc _).alloc _ | exact ((hr2.alloc _).alloc _).alloc _); rintro e w3 ⟨⟨d3, hd3, rfl⟩, hr3, ho3⟩; have hN3 : Only [rb] wq w3 := (by first | exact hN2.trans ho3 | exact (hN2.alloc _).trans ho3 | exact ((hN2.alloc _).alloc _).trans ho3 | exact (((hN2.alloc _).alloc _).alloc _).trans ho3); have hl3 := hr3.lt; have hz3 := hN3.size; have hd2 : 1 ≤ d3 ∧ d3 ≤ 2 := (by simp at hd3; omega); have hsf3 := hrd0.only hN3 hnr; have hM3 : Only [rb] w2 w3 := (by first | exact ho3 | exact (Only.below (zb w2 _)).trans ho3 | exact (Only.below (((Below.refl w2.heap.size w2).alloc (Nat.le_refl _) _).alloc (by simp) _)).trans ho3); try (first | (refine Lst.use (vs := [.string ⟨#[]⟩, .slice none 0 0, .string ⟨#[]⟩, .slice none 0 0]) ho3 (by first | exact hv2 | exact hv2.alloc _ | exact (hv2.alloc _).alloc _) ?_; intro hvl3 hv3) | (refine Lst.use (lb := w2.heap.size) (vs := [.string ⟨#[]⟩, .slice none 0 0, .string ⟨#[]⟩, .slice none 0 0]) ho3 ?_ ?_; (focus ((repeat (first | ((with_reducible refine Lst.new ?_ _ _); exact hl2) | ((with_reducible refine Lst.new1 ?_ _ _ _); exact hl2) | ((with_reducible refine Lst.new2 ?_ _ _ _ _); exact hl2) | with_reducible refine Lst.drew ?_ | with_reducible refine Lst.alloc ?_ _)); done)); intro hvl3 hv3) | (refine Lst.use (lb := (w2.heap.size + 1)) (vs := [.string ⟨#[]⟩, .slice none 0 0, .string ⟨#[]⟩, .slice none 0 0]) ho3 ?_ ?_; (focus ((repeat (first | ((with_reducible refine Lst.new ?_ _ _); exact hl2) | ((with_reducible refine Lst.new1 ?_ _ _ _); exact hl2) | ((with_reducible refine Lst.new2 ?_ _ _ _ _); exact hl2) | with_reducible refine Lst.drew ?_ | with_reducible refine Lst.alloc ?_ _)); done)); intro hvl3 hv3) | (refine Lst.use (lb := (w2.heap.size + 1 + 1)) (vs := [.string ⟨#[]⟩, .slice none 0 0, .string ⟨#[]⟩, .slice none 0 0]) ho3 ?_ ?_; (focus ((repeat (first | ((with_reducible refine Lst.new ?_ _ _); exact hl2) | ((with_reducible refine Lst.new1 ?_ _ _ _); exact hl2) | ((with_reducible refine Lst.new2 ?_ _ _ _ _); exact hl2) | with_reducible refine Lst.drew ?_ | with_reducible refine Lst.alloc ?_ _)); done)); intro hvl3 hv3)))
      | (go_at_call 102; (with_reducible refine (zbF 3 s _ sf _ _ rb (q + 1 + 1 + pcap 3 + 1) _ hd2.1 (by omega) (by omega) (by simp only [pcap]; omega) hfew (by first | exact hsf3 | exact hsf3.below (zb _ _) | exact hsf3.below (((Below.refl _ _).alloc (Nat.le_refl _) _).alloc (by simp) _)) hnr ?_).mono ?_); (first | exact hr3 | exact hr3.alloc _ | exact (hr3.alloc _).alloc _ | exact ((hr3.alloc _).alloc _).alloc _); rintro e w4 ⟨⟨t2, kv2, fo2, hs2, rfl, hnm2, hown2, hfo2⟩, hr4, ho4⟩; have hN4 : Only [rb] wq w4 := (by first | exact hN3.trans ho4 | exact (hN3.alloc _).trans ho4 | exact ((hN3.alloc _).alloc _).trans ho4 | exact (((hN3.alloc _).alloc _).alloc _).trans ho4); have hl4 := hr4.lt; have hz4 := hN4.size; obtain ⟨kb, kd, hkv2, hk3, hk4⟩ := hown2.form; rw [zew] at hkv2 hk3; subst hkv2; obtain ⟨fb, hrb, hfb, _⟩ := hown2.fresh hfo2; have hM4 : Only [rb] w3 w4 := (by first | exact ho4 | exact (Only.below (zb w3 _)).trans ho4 | exact (Only.below (((Below.refl w3.heap.size w3).alloc (Nat.le_refl _) _).alloc (by simp) _)).trans ho4); try (first | (refine Lst.use (vs := [.string ⟨#[]⟩, .slice none 0 0, .string ⟨#[]⟩, .slice none 0 0]) ho4 (by first | exact hv3 | exact hv3.alloc _ | exact (hv3.alloc _).alloc _) ?_; intro hvl4 hv4) | (refine Lst.use (lb := w3.heap.size) (vs := [.string ⟨#[]⟩, .slice none 0 0, .string ⟨#[]⟩, .slice none 0 0]) ho4 ?_ ?_; (focus ((repeat (first | ((with_reducible refine Lst.new ?_ _ _); exact hl3) | ((with_reducible refine Lst.new1 ?_ _ _ _); exact hl3) | ((with_reducible refine Lst.new2 ?_ _ _ _ _); exact hl3) | with_reducible refine Lst.drew ?_ | with_reducible refine Lst.alloc ?_ _)); done)); intro hvl4 hv4) | (refine Lst.use (lb := (w3.heap.size + 1)) (vs := [.string ⟨#[]⟩, .slice none 0 0, .string ⟨#[]⟩, .slice none 0 0]) ho4 ?_ ?_; (focus ((repeat (first | ((with_reducible refine Lst.new ?_ _ _); exact hl3) | ((with_reducible refine Lst.new1 ?_ _ _ _); exact hl3) | ((with_reducible refine Lst.new2 ?_ _ _ _ _); exact hl3) | with_reducible refine Lst.drew ?_ | with_reducible refine Lst.alloc ?_ _)); done)); intro hvl4 hv4) | (refine Lst.use (lb := (w3.heap.size + 1 + 1)) (vs := [.string ⟨#[]⟩, .slice none 0 0, .string ⟨#[]⟩, .slice none 0 0]) ho4 ?_ ?_; (focus ((repeat (first | ((with_reducible refine Lst.new ?_ _ _); exact hl3) | ((with_reducible refine Lst.new1 ?_ _ _ _); exact hl3) | ((with_reducible refine Lst.new2 ?_ _ _ _ _); exact hl3) | with_reducible refine Lst.drew ?_ | with_reducible refine Lst.alloc ?_ _)); done)); intro hvl4 hv4)); try (have vf0 := hv4.2.2.2 0; have vc0 := hv4.2.2.1 0 _ rfl; have vf1 := hv4.2.2.2 1; have vc1 := hv4.2.2.1 1 _ rfl; have vf2 := hv4.2.2.2 2; have vc2 := hv4.2.2.1 2 _ rfl; have vf3 := hv4.2.2.2 3; have vc3 := hv4.2.2.1 3 _ rfl)))
    all_goals
     have hra3 := hra.only hM3 (hfa.notin (by first | omega | (simp only [World.size_alloc]; omega)))
     have hra4 := hra3.only hM4 (hfa.notin (by first | omega | (simp only [World.size_alloc]; omega)))
     have hE4 : RdVs w4 (Eqn.mk t1 t2).cd [.string t1.name, .slice ka t1.kids.length kc, .string t2.name, .slice kb t2.kids.length kd] (fa ++ fb) := Eqn.close (x := ⟨t1, t2⟩) hnm1 hra4 hnm2 hrb
     have hf4 : ∀ b ∈ fa ++ fb, wq.heap.size ≤ b := fun b hb => by
      rcases zer.1 hb with h | h
      ·have := (hfa.2 b h).1; (try simp only [World.size_alloc] at this); omega
      ·have := (hfb.2 b h).1; (try simp only [World.size_alloc] at this); omega
     have hr5 : Rdr w4 rb (q + 25) := hr4.mono (by simp only [pcap]; omega)
     have hz23 := hM3.size
     clear hr4 hr3 hr2 hr1 hsf1 hsf2 hsf3 hra hra3 hra4 hrb hrd0 hHQ hM3 hM4
     go_wp2_with fail
     go_meet
     case rel =>
      first
       | exact ⟨zed (q := ⟨t1, t2⟩) hs1 hs2 (by omega) hE4 hf4 hl4, hr5.alloc _, hN4.alloc _⟩
       | exact ⟨varEq_mid (q := ⟨t1, t2⟩) hs1 hs2 (by omega) hE4 hf4 (fun h => by
         rcases zer.1 h with h | h
         ·first | exact hfa.notin hvl2 h | (have := hfal _ h; omega)
         ·exact hfb.notin hvl4 h) hv4, (((hr5.set (by omega)).set (by omega)).set (by omega)).set (by omega), (((hN4.set_new (by omega)).set_new (by omega)).set_new (by omega)).set_new (by omega)⟩
   case rest =>
   obtain ⟨hownq, hNq, hown⟩ := hHQ.out
   clear hHQ hr0 hrd0
   obtain ⟨⟨bt, qn, ka, kc, kb, kd, f, rfl, hq1, hq2, hBt, hrv, hf, hnf, hlst⟩, hr1, hN1⟩ := hcut
   have hzc := hN1.size
   have y0 := hN1.cellk x2 (by omega)
   have e0 := hlst.2.2.1 0 _ rfl
   have e1 := hlst.2.2.1 1 _ rfl
   have e2 := hlst.2.2.1 2 _ rfl
   have e3 := hlst.2.2.1 3 _ rfl
   have hlb := hlst.2.1
   have hownc := hownq.only hN1 (by omega) (fun h => by have := hfp.out _ h; omega)
   have hNc := hNq.trans hN1
   have hrdc := hrd.only hNc hnr
   obtain ⟨oa, oc, hoe, ho1, ho2⟩ := hownc.form
   rw [zew] at hoe ho1
   subst hoe
   have hrow : ∀ q, (Value.slice oa es.length oc).ownBlock = some q → w.heap.size + 1 ≤ q ∧ q < wq.heap.size := fun q hq => hownq.block hq
   obtain ⟨fr, hro⟩ := hownc.rd'
   have hfrl := hro.lt _
   have hfl := RdVs.lt _ hrv
   have hrl := hr1.lt
   have hsum : Tm.sizes (zj (es ++ [qn])) ≤ 1000000000 := by
    have h1 := zc2 (es ++ [qn]) 14 (fun e he => by
     rcases zer.1 he with h | h
     ·have := hsz.out e h; omega
     ·rw [List.mem_singleton.1 h]; omega)
    rw [zet, List.length_singleton] at h1; omega
   clear hownq hNq hN1 hlst hown x2
   have B0 := zi wc
   have B1 := B0.alloc (Nat.le_refl wc.heap.size) (.cells #[] 36)
   have B2 := B0.alloc (Nat.le_refl wc.heap.size) (.cells #[.string qn.a.name, .slice ka qn.a.kids.length kc, .string qn.b.name, .slice kb qn.b.kids.length kd] 36)
   have B3 := B2.alloc B2.size (.cells #[] 36)
   have B4 := B1.alloc B1.size (.cells #[.string qn.a.name, .slice ka qn.a.kids.length kc, .string qn.b.name, .slice kb qn.b.kids.length kd] 36)
   have O1 : Own (wc.drew.alloc (.cells #[] 36)) wc.heap.size 36 4 (.slice (some ⟨wc.heap.size, 0, none⟩) 0 0) [] [] := Own.empty wc.drew wc.heap.size _ 4 (Nat.le_refl _)
   have O2 : Own ((wc.drew.alloc (.cells #[.string qn.a.name, .slice ka qn.a.kids.length kc, .string qn.b.name, .slice kb qn.b.kids.length kd] 36)).alloc (.cells #[] 36)) wc.heap.size 36 4 (.slice (some ⟨wc.heap.size + 1, 0, none⟩) 0 0) [] [] := by
    have h := Own.empty (wc.drew.alloc (.cells #[.string qn.a.name, .slice ka qn.a.kids.length kc, .string qn.b.name, .slice kb qn.b.kids.length kd] 36)) wc.heap.size 36 4 B2.size
    rw [World.size_alloc] at h; exact h
   have O3 := O1.below (zb _ (.cells #[.string qn.a.name, .slice ka qn.a.kids.length kc, .string qn.b.name, .slice kb qn.b.kids.length kd] 36))
   have L1 : ∀ j u, [.string qn.a.name, .slice ka qn.a.kids.length kc, .string qn.b.name, .slice kb qn.b.kids.length kd][j]? = some u → ((wc.drew.alloc (.cells #[.string qn.a.name, .slice ka qn.a.kids.length kc, .string qn.b.name, .slice kb qn.b.kids.length kd] 36)).alloc (.cells #[] 36)).cell? ⟨wc.heap.size, j, none⟩ = some u := fun j u hu => zz (zg wc.drew [.string qn.a.name, .slice ka qn.a.kids.length kc, .string qn.b.name, .slice kb qn.b.kids.length kd] 36 j u hu)
   have L2 : ∀ j u, [.string qn.a.name, .slice ka qn.a.kids.length kc, .string qn.b.name, .slice kb qn.b.kids.length kd][j]? = some u → ((wc.drew.alloc (.cells #[] 36)).alloc (.cells #[.string qn.a.name, .slice ka qn.a.kids.length kc, .string qn.b.name, .slice kb qn.b.kids.length kd] 36)).cell? ⟨wc.heap.size + 1, j, none⟩ = some u := fun j u hu => by
    have h := zg (wc.drew.alloc (.cells #[] 36)) [.string qn.a.name, .slice ka qn.a.kids.length kc, .string qn.b.name, .slice kb qn.b.kids.length kd] 36 j u hu
    rw [World.size_alloc] at h; exact h
   go_wp2_with fail
   go_region_held3 (fun U => U.cell? ⟨w.heap.size, 0, none⟩ = some (.slice a0 s.syms.length c0) ∧ U.cell? ⟨bt, 0, none⟩ = some (.string qn.a.name) ∧ U.cell? ⟨bt, 1, none⟩ = some (.slice ka qn.a.kids.length kc) ∧ U.cell? ⟨bt, 2, none⟩ = some (.string qn.b.name) ∧ U.cell? ⟨bt, 3, none⟩ = some (.slice kb qn.b.kids.length kd))
    (first | exact ⟨y0, e0, e1, e2, e3⟩ | exact ⟨za y0 B1, za e0 B1, za e1 B1, za e2 B1, za e3 B1⟩ | exact ⟨za y0 B2, za e0 B2, za e1 B2, za e2 B2, za e3 B2⟩ | exact ⟨za y0 B3, za e0 B3, za e1 B3, za e2 B3, za e3 B3⟩ | exact ⟨za y0 B4, za e0 B4, za e1 B4, za e2 B4, za e3 B4⟩ | exact ⟨za y0 B5, za e0 B5, za e1 B5, za e2 B5, za e3 B5⟩ | exact ⟨za y0 B6, za e0 B6, za e1 B6, za e2 B6, za e3 B6⟩ | exact ⟨za y0 B7, za e0 B7, za e1 B7, za e2 B7, za e3 B7⟩ | exact ⟨za y0 B8, za e0 B8, za e1 B8, za e2 B8, za e3 B8⟩)
    (first
     | (refine step_appW zac rfl _ _ rfl wc.heap.size _ [] [] rfl (by first | exact O1 | exact O2 | exact O3) (es.map Eqn.cd) _ fr rfl (by first | exact hro.below B1 | exact hro.below B3 | exact hro.below B4) (by simp only [List.mem_map]; rintro e ⟨t, _, rfl⟩; exact Eqn.cd_len t) (fun b hb h => by have h1 := hfrl b hb; have h2 := Option.some.inj h; (try simp only at h2); omega) (by simp; omega) (by simp; omega) (by simp; try omega) ?_; intro v5 w5 nf5 hnf5 hown5 hg5 hv5; have B5 : Below wc.heap.size wc w5 := zf (by first | exact B1 | exact B3 | exact B4) hg5 (by simp; try omega) (fun q hq => by have h2 := Option.some.inj hq; (try simp only at h2); omega); have B6 := B5.alloc B5.size (.cells #[.string qn.a.name, .slice ka qn.a.kids.length kc, .string qn.b.name, .slice kb qn.b.kids.length kd] 36))
     | (refine zN zac rfl _ _ rfl wc.heap.size _ _ _ rfl (by first | exact hown5 | exact hown5.below (zb _ _)) ⟨_, 0, none⟩ 1 1 [qn.cd] [.string qn.a.name, .slice ka qn.a.kids.length kc, .string qn.b.name, .slice kb qn.b.kids.length kd] f rfl rfl (by first | simpa using hrv.below B5 | simpa using hrv.below B6) (by simp [Eqn.cd_len]) (by first | (intro j u hu; rw [Addr.add_lit, Nat.zero_add]; first | exact zo hg5 (L1 j u hu) (fun e => by have h2 : wc.heap.size + 1 = wc.heap.size := Option.some.inj e; omega) | exact zo hg5 (L2 j u hu) (fun e => by have h2 : wc.heap.size = wc.heap.size + 1 := Option.some.inj e; omega) | exact zg w5 [.string qn.a.name, .slice ka qn.a.kids.length kc, .string qn.b.name, .slice kb qn.b.kids.length kd] 36 j u hu)) (fun b hb h => by have h1 := hfl b hb; have h2 := (hown5.block h).1; omega) (by simp; omega) (by simp; omega) (by first | exact B5.size | exact B6.size) ?_; intro v6 w6 hown6 hg6 hv6 hs6; have B7 : Below wc.heap.size wc w6 := zf (by first | exact B5 | exact B6) hg6 (by first | exact B5.size | exact B6.size) (fun q hq => (hown5.block hq).1); obtain ⟨f6, hr6⟩ := hown6.rd')
     | (go_at_call 18; (refine (za8 s (es ++ [qn]) _ _ _ f6 _ hsum (by exact hrdc.below B7) (by simpa using hr6)).mono ?_); rintro e w7 ⟨rfl, hb7⟩; have B8 := B7.trans (hb7.mono B7.size)))
   all_goals
    clear hg5 hv5 hg6 hv6 hs6 hown5 hown6 hr6 hb7 hnf5 B0 B1 B2 B3 B4 B5 B6 B7 O1 O2 O3 L1 L2
    have hz7 := B8.size
    replace y0 := za y0 B8
    replace e0 := za e0 B8
    replace e1 := za e1 B8
    replace e2 := za e2 B8
    replace e3 := za e3 B8
    have hown7 := hownc.below B8
    have hN7 := hNc.trans (Only.below B8)
    have hr7 := hr1.below B8
    have hrv7 := hrv.below B8
    clear hownc hNc hr1 hrdc hrv B8 hro
    cases hb : eqsB s (es ++ [qn])
    ·clear hb
     go_wp2_with fail
     go_roundw
     case rel => exact ⟨m - 1, es, fp, q + 25, by go_num, by omega, by omega, hown7, hfp, hsz, hr7, hN7, y0⟩
     case measure => simp [intOf]; omega
    ·clear hb
     have B9 := zb w7 (.cells #[.string qn.a.name, .slice ka qn.a.kids.length kc, .string qn.b.name, .slice kb qn.b.kids.length kd] 36)
     go_wp2_with (at_builtin; refine zp zac rfl _ _ rfl (w.heap.size + 1) _ _ _ rfl (by exact hown7.below B9) ⟨w7.heap.size, 0, none⟩ 1 1 [qn.cd] [.string qn.a.name, .slice ka qn.a.kids.length kc, .string qn.b.name, .slice kb qn.b.kids.length kd] f rfl rfl ?rd ?k ?cells ?na ?bytes ?len ?base ?next)
     case rd => simpa using hrv7.below B9
     case k => simp [Eqn.cd_len]
     case cells => exact zn w7 [.string qn.a.name, .slice ka qn.a.kids.length kc, .string qn.b.name, .slice kb qn.b.kids.length kd] 36
     case na => intro b hb h; have h1 := hrow b h; have h2 := hf b hb; omega
     case bytes => simp; omega
     case len => simp; omega
     case base => simp; omega
     case next =>
      intro v8 w8 hown8 hg8 hv8 hs8
      have hro8 : ∀ q, (Value.slice oa es.length oc).ownBlock = some q → w.heap.size ≤ q := fun q hq => by have := (hown7.block hq).1; omega
      go_wp2_with fail
      go_roundw
      case rel =>
       refine ⟨m - 1, es ++ [qn], fp ++ f, q + 25, by go_num, by simp; omega, by omega, by rw [zeu]; exact hown8, Lib.hid fun b hb => ?_, Lib.hid fun e he => ?_, (hr7.below B9).grown hg8 (fun q hq => by have := hro8 q hq; omega), (hN7.trans (Only.below B9)).grown hg8 (fun q hq => hro8 q hq), zo hg8 (zz y0) (fun e => by have := hrow _ e; omega)⟩
       ·rcases zer.1 hb with h | h
        ·exact hfp.out b h
        ·have := hf b h; omega
       ·rcases zer.1 he with h | h
        ·exact hsz.out e h
        ·rw [List.mem_singleton.1 h]; exact ⟨hq1, hq2⟩
      case measure => simp [intOf]; omega
  ·have hmb : decide ((0 : Int) < (m : Int)) = false := by simpa using hm
   obtain ⟨oa, on, oc, rfl⟩ := hown.form'
   go_wp2_with fail
   go_ret
   exact ⟨⟨es, _, fp, by omega, hsz.out, rfl, hown.base (fun q hq => by have := (hown.block hq).1; omega), hfp.out⟩, hrr.mono (by omega), hN⟩
end Go.Proofs.YtlefdhhnlbpbkaaGreat
end
