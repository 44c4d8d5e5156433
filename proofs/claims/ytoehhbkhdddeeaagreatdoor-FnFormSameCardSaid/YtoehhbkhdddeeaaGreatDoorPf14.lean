/- Parts of the proof: RdrT. -/
import Derived.Test.YtoehhbkhdddeeaaGreatDoorPf10
section
namespace Go.Proofs.YtoehhbkhdddeeaaGreatDoor
open Go Go.RowKit
set_option linter.unusedVariables false
set_option linter.unusedSimpArgs false
set_option maxRecDepth 100000
set_option maxHeartbeats 16000000
/-- Names are right. -/
def Sg.nice (s : Sg) : Prop := s.syms.all (fun y => zO y.name) = true
theorem Sg.nice.name {s : Sg} (h : s.nice) {y : Sy} (hy : y ∈ s.syms) : zO y.name = true := List.all_eq_true.1 h y hy
/-- A term that was drawn, right but for the words' arguments. -/
def DrawnNice (w : World) (cap n : Nat) (e : Ending) (w' : World) : Prop := ∃ (t : Tm) (kv : Value) (fp : List Nat), (t.size ≤ cap ∧ Tm.shape t n = true) ∧ e = .returned (.agg #[.string t.name, kv]) ∧ t.name.size ≤ maxLen ∧ Own w' w.heap.size 25 2 kv (t.kids.map Tm.cd) fp ∧ Fresh w.heap.size w' fp
theorem zcJ {ts : List Tm} {t : Tm} {d : Int} (h : Tm.shapes ts d = true) (h' : Tm.shape t d = true) : Tm.shapes (ts ++ [t]) d = true := by
 rw [Tm.shapes_all] at h ⊢
 rw [List.all_append, h]; simp [h']
theorem shape_q (n : Nat) : Tm.shape (.mk ⟨#[113]⟩ []) ((n + 1 : Nat) : Int) = true := by
 have h : zO ⟨#[113]⟩ = true := by decide
 rw [Tm.shape_eq]; simp [Tm.name, Tm.kids, h, Tm.shapes]; try omega
theorem shape_mk {nm : ByteArray} {ks : List Tm} {n : Nat} (h : zO nm = true) (hl : ks.length ≤ 2) (hs : Tm.shapes ks n = true) : Tm.shape (.mk nm ks) ((n + 1 : Nat) : Int) = true := by
 rw [Tm.shape_eq]
 have h1 : ((n + 1 : Nat) : Int) - 1 = (n : Int) := by omega
 simp only [Tm.name, Tm.kids, h, h1, hs, Bool.and_true, zdY, decide_eq_true_eq]
 exact ⟨by omega, decide_eq_true hl⟩
theorem zcK (k : Int) (w : World) :
  Calls Tryz.prog 44 #[.int .i64 k] w fun e w' => (∃ (s : Sg) (vs : List Value) (f : List Nat), (s.few ∧ s.nice) ∧ e = .returned (.agg vs.toArray) ∧ RdVs w' s.cd vs f ∧ ∀ b ∈ f, w.heap.size ≤ b) ∧ Below w.heap.size w w' := by
 by_cases k0 : k = 0
 rotate_left
 by_cases k1 : k = 1
 rotate_left
 by_cases k2 : k = 2
 rotate_left
 by_cases k3 : k = 3
 rotate_left
 ·have d0 : (k == 0) = false := by simpa using k0
  have d1 : (k == 1) = false := by simpa using k1
  have d2 : (k == 2) = false := by simpa using k2
  have d3 : (k == 3) = false := by simpa using k3
  go_enter Tryz.func44, Tryz.ntmps44
  go_wp2_with fail
  generalize hW : (w.alloc (.cells #[.slice (some ⟨w.heap.size + 1, 0, none⟩) 0 0] 43)).alloc (.cells #[] 70) = W
  have hz : W.heap.size = w.heap.size + 2 := by rw [← hW]; simp
  have hB : Below w.heap.size w W := by rw [← hW]; exact (((Below.refl _ _).alloc (Nat.le_refl _) _).alloc (by simp) _)
  have hr : W.cell? ⟨w.heap.size, 0, none⟩ = some (.slice (some ⟨w.heap.size + 1, 0, none⟩) 0 0) := by rw [← hW]; exact zb (zx _ _ _ 0) ((Below.refl _ _).alloc (Nat.le_refl _) _)
  have hs : ∀ j u, ([] : List Value)[j]? = some u → W.cell? ⟨w.heap.size + 1, j, none⟩ = some u := fun j u hu => by simp at hu
  clear hW
  exact bodyPost_ret (v := .agg #[.slice (some ⟨w.heap.size + 1, 0, none⟩) 0 0]) (by simp [results, Tryz.results44, go_sem, hr]) rfl ⟨⟨⟨[]⟩, [.slice (some ⟨w.heap.size + 1, 0, none⟩) 0 0], [], ⟨⟨by simp, by simp⟩, by unfold Sg.nice; decide⟩, rfl, Sg.close (x := ⟨[]⟩) (zcZ _), by simp⟩, hB⟩
 ·subst k0
  go_enter Tryz.func44, Tryz.ntmps44
  go_wp2_with fail
  generalize hW : (((w.alloc (.cells #[.slice (some ⟨w.heap.size + 1 + 1 + 1, 0, none⟩) 5 5] 43)).alloc (.cells #[.int .i64 0] 3)).alloc (.cells #[.int .i64 0, .int .i64 0] 3)).alloc (.cells #[.string ⟨#[97]⟩, .slice none 0 0, .int .i64 0, .string ⟨#[98]⟩, .slice none 0 0, .int .i64 0, .string ⟨#[99]⟩, .slice none 0 0, .int .i64 0, .string ⟨#[102]⟩, .slice (some ⟨w.heap.size + 1, 0, none⟩) 1 1, .int .i64 0, .string ⟨#[103]⟩, .slice (some ⟨w.heap.size + 1 + 1, 0, none⟩) 2 2, .int .i64 0] 70) = W
  have hz : W.heap.size = w.heap.size + 4 := by rw [← hW]; simp
  have hB : Below w.heap.size w W := by rw [← hW]; exact (((((Below.refl _ _).alloc (Nat.le_refl _) _).alloc (by simp) _).alloc (by simp <;> omega) _).alloc (by simp <;> omega) _)
  have hr : W.cell? ⟨w.heap.size, 0, none⟩ = some (.slice (some ⟨w.heap.size + 1 + 1 + 1, 0, none⟩) 5 5) := by rw [← hW]; exact zb (zx _ _ _ 0) ((((Below.refl _ _).alloc (Nat.le_refl _) _).alloc (by simp) _).alloc (by simp <;> omega) _)
  have hs : ∀ j u, ([.string ⟨#[97]⟩, .slice none 0 0, .int .i64 0, .string ⟨#[98]⟩, .slice none 0 0, .int .i64 0, .string ⟨#[99]⟩, .slice none 0 0, .int .i64 0, .string ⟨#[102]⟩, .slice (some ⟨w.heap.size + 1, 0, none⟩) 1 1, .int .i64 0, .string ⟨#[103]⟩, .slice (some ⟨w.heap.size + 1 + 1, 0, none⟩) 2 2, .int .i64 0] : List Value)[j]? = some u → W.cell? ⟨w.heap.size + 1 + 1 + 1, j, none⟩ = some u := fun j u hu => by rw [← hW]; have h := zj (((w.alloc (.cells #[.slice (some ⟨w.heap.size + 1 + 1 + 1, 0, none⟩) 5 5] 43)).alloc (.cells #[.int .i64 0] 3)).alloc (.cells #[.int .i64 0, .int .i64 0] 3)) [.string ⟨#[97]⟩, .slice none 0 0, .int .i64 0, .string ⟨#[98]⟩, .slice none 0 0, .int .i64 0, .string ⟨#[99]⟩, .slice none 0 0, .int .i64 0, .string ⟨#[102]⟩, .slice (some ⟨w.heap.size + 1, 0, none⟩) 1 1, .int .i64 0, .string ⟨#[103]⟩, .slice (some ⟨w.heap.size + 1 + 1, 0, none⟩) 2 2, .int .i64 0] 70 j u hu; simpa using h
  have ha1 : ∀ j u, (([0] : List Int).map (Value.int .i64))[j]? = some u → W.cell? ⟨w.heap.size + 1, j, none⟩ = some u := fun j u hu => by rw [← hW]; exact zb (by have h := zj (w.alloc (.cells #[.slice (some ⟨w.heap.size + 1 + 1 + 1, 0, none⟩) 5 5] 43)) [.int .i64 0] 3 j u (by simpa using hu); simpa using h) (((Below.refl _ _).alloc (Nat.le_refl _) _).alloc (by simp) _)
  have ha2 : ∀ j u, (([0, 0] : List Int).map (Value.int .i64))[j]? = some u → W.cell? ⟨w.heap.size + 1 + 1, j, none⟩ = some u := fun j u hu => by rw [← hW]; exact zb (by have h := zj ((w.alloc (.cells #[.slice (some ⟨w.heap.size + 1 + 1 + 1, 0, none⟩) 5 5] 43)).alloc (.cells #[.int .i64 0] 3)) [.int .i64 0, .int .i64 0] 3 j u (by simpa using hu); simpa using h) ((Below.refl _ _).alloc (Nat.le_refl _) _)
  clear hW
  have hv := ((sym0 W ⟨#[97]⟩ 0 (by decide) (by omega)).app ((sym0 W ⟨#[98]⟩ 0 (by decide) (by omega)).app ((sym0 W ⟨#[99]⟩ 0 (by decide) (by omega)).app ((sym1 W ⟨#[102]⟩ [0] 0 (w.heap.size + 1) (by decide) (by omega) (by simp) (by simp) (by intro x hx; simp at hx; unfold I64; omega) (by omega) ha1).app ((sym1 W ⟨#[103]⟩ [0, 0] 0 (w.heap.size + 1 + 1) (by decide) (by omega) (by simp) (by simp) (by intro x hx; simp at hx; unfold I64; omega) (by omega) ha2).app (by simp only [RdVs]; exact ⟨trivial, trivial⟩ : RdVs W [] [] []))))))
  refine bodyPost_ret (v := .agg #[.slice (some ⟨w.heap.size + 1 + 1 + 1, 0, none⟩) 5 5]) (by simp [results, Tryz.results44, go_sem, hr]) rfl ⟨⟨⟨[⟨⟨#[97]⟩, [], 0⟩, ⟨⟨#[98]⟩, [], 0⟩, ⟨⟨#[99]⟩, [], 0⟩, ⟨⟨#[102]⟩, [0], 0⟩, ⟨⟨#[103]⟩, [0, 0], 0⟩]⟩, [.slice (some ⟨w.heap.size + 1 + 1 + 1, 0, none⟩) 5 5], (w.heap.size + 1 + 1 + 1) :: [w.heap.size + 1, w.heap.size + 1 + 1], ⟨⟨by simp, by simp⟩, by unfold Sg.nice; decide⟩, rfl, Sg.close (x := ⟨[⟨⟨#[97]⟩, [], 0⟩, ⟨⟨#[98]⟩, [], 0⟩, ⟨⟨#[99]⟩, [], 0⟩, ⟨⟨#[102]⟩, [0], 0⟩, ⟨⟨#[103]⟩, [0, 0], 0⟩]⟩) (zaQ (k := 3) hs (by exact hv) (by simp) (by simp) (by simp) (by omega) (by omega)), by intro b hb; simp at hb; omega⟩, hB⟩
 ·subst k1
  go_enter Tryz.func44, Tryz.ntmps44
  go_wp2_with fail
  generalize hW : ((w.alloc (.cells #[.slice (some ⟨w.heap.size + 1 + 1, 0, none⟩) 5 5] 43)).alloc (.cells #[.int .i64 0] 3)).alloc (.cells #[.string ⟨#[97]⟩, .slice none 0 0, .int .i64 0, .string ⟨#[98]⟩, .slice none 0 0, .int .i64 0, .string ⟨#[104]⟩, .slice (some ⟨w.heap.size + 1, 0, none⟩) 1 1, .int .i64 1, .string ⟨#[120]⟩, .slice none 0 0, .int .i64 1, .string ⟨#[121]⟩, .slice none 0 0, .int .i64 1] 70) = W
  have hz : W.heap.size = w.heap.size + 3 := by rw [← hW]; simp
  have hB : Below w.heap.size w W := by rw [← hW]; exact ((((Below.refl _ _).alloc (Nat.le_refl _) _).alloc (by simp) _).alloc (by simp <;> omega) _)
  have hr : W.cell? ⟨w.heap.size, 0, none⟩ = some (.slice (some ⟨w.heap.size + 1 + 1, 0, none⟩) 5 5) := by rw [← hW]; exact zb (zx _ _ _ 0) (((Below.refl _ _).alloc (Nat.le_refl _) _).alloc (by simp) _)
  have hs : ∀ j u, ([.string ⟨#[97]⟩, .slice none 0 0, .int .i64 0, .string ⟨#[98]⟩, .slice none 0 0, .int .i64 0, .string ⟨#[104]⟩, .slice (some ⟨w.heap.size + 1, 0, none⟩) 1 1, .int .i64 1, .string ⟨#[120]⟩, .slice none 0 0, .int .i64 1, .string ⟨#[121]⟩, .slice none 0 0, .int .i64 1] : List Value)[j]? = some u → W.cell? ⟨w.heap.size + 1 + 1, j, none⟩ = some u := fun j u hu => by rw [← hW]; have h := zj ((w.alloc (.cells #[.slice (some ⟨w.heap.size + 1 + 1, 0, none⟩) 5 5] 43)).alloc (.cells #[.int .i64 0] 3)) [.string ⟨#[97]⟩, .slice none 0 0, .int .i64 0, .string ⟨#[98]⟩, .slice none 0 0, .int .i64 0, .string ⟨#[104]⟩, .slice (some ⟨w.heap.size + 1, 0, none⟩) 1 1, .int .i64 1, .string ⟨#[120]⟩, .slice none 0 0, .int .i64 1, .string ⟨#[121]⟩, .slice none 0 0, .int .i64 1] 70 j u hu; simpa using h
  have ha1 : ∀ j u, (([0] : List Int).map (Value.int .i64))[j]? = some u → W.cell? ⟨w.heap.size + 1, j, none⟩ = some u := fun j u hu => by rw [← hW]; exact zb (by have h := zj (w.alloc (.cells #[.slice (some ⟨w.heap.size + 1 + 1, 0, none⟩) 5 5] 43)) [.int .i64 0] 3 j u (by simpa using hu); simpa using h) ((Below.refl _ _).alloc (Nat.le_refl _) _)
  clear hW
  have hv := ((sym0 W ⟨#[97]⟩ 0 (by decide) (by omega)).app ((sym0 W ⟨#[98]⟩ 0 (by decide) (by omega)).app ((sym1 W ⟨#[104]⟩ [0] 1 (w.heap.size + 1) (by decide) (by omega) (by simp) (by simp) (by intro x hx; simp at hx; unfold I64; omega) (by omega) ha1).app ((sym0 W ⟨#[120]⟩ 1 (by decide) (by omega)).app ((sym0 W ⟨#[121]⟩ 1 (by decide) (by omega)).app (by simp only [RdVs]; exact ⟨trivial, trivial⟩ : RdVs W [] [] []))))))
  refine bodyPost_ret (v := .agg #[.slice (some ⟨w.heap.size + 1 + 1, 0, none⟩) 5 5]) (by simp [results, Tryz.results44, go_sem, hr]) rfl ⟨⟨⟨[⟨⟨#[97]⟩, [], 0⟩, ⟨⟨#[98]⟩, [], 0⟩, ⟨⟨#[104]⟩, [0], 1⟩, ⟨⟨#[120]⟩, [], 1⟩, ⟨⟨#[121]⟩, [], 1⟩]⟩, [.slice (some ⟨w.heap.size + 1 + 1, 0, none⟩) 5 5], (w.heap.size + 1 + 1) :: [w.heap.size + 1], ⟨⟨by simp, by simp⟩, by unfold Sg.nice; decide⟩, rfl, Sg.close (x := ⟨[⟨⟨#[97]⟩, [], 0⟩, ⟨⟨#[98]⟩, [], 0⟩, ⟨⟨#[104]⟩, [0], 1⟩, ⟨⟨#[120]⟩, [], 1⟩, ⟨⟨#[121]⟩, [], 1⟩]⟩) (zaQ (k := 3) hs (by exact hv) (by simp) (by simp) (by simp) (by omega) (by omega)), by intro b hb; simp at hb; omega⟩, hB⟩
 ·subst k2
  go_enter Tryz.func44, Tryz.ntmps44
  go_wp2_with fail
  generalize hW : ((w.alloc (.cells #[.slice (some ⟨w.heap.size + 1 + 1, 0, none⟩) 4 4] 43)).alloc (.cells #[.int .i64 1] 3)).alloc (.cells #[.string ⟨#[107]⟩, .slice (some ⟨w.heap.size + 1, 0, none⟩) 1 1, .int .i64 1, .string ⟨#[120]⟩, .slice none 0 0, .int .i64 1, .string ⟨#[121]⟩, .slice none 0 0, .int .i64 1, .string ⟨#[122]⟩, .slice none 0 0, .int .i64 1] 70) = W
  have hz : W.heap.size = w.heap.size + 3 := by rw [← hW]; simp
  have hB : Below w.heap.size w W := by rw [← hW]; exact ((((Below.refl _ _).alloc (Nat.le_refl _) _).alloc (by simp) _).alloc (by simp <;> omega) _)
  have hr : W.cell? ⟨w.heap.size, 0, none⟩ = some (.slice (some ⟨w.heap.size + 1 + 1, 0, none⟩) 4 4) := by rw [← hW]; exact zb (zx _ _ _ 0) (((Below.refl _ _).alloc (Nat.le_refl _) _).alloc (by simp) _)
  have hs : ∀ j u, ([.string ⟨#[107]⟩, .slice (some ⟨w.heap.size + 1, 0, none⟩) 1 1, .int .i64 1, .string ⟨#[120]⟩, .slice none 0 0, .int .i64 1, .string ⟨#[121]⟩, .slice none 0 0, .int .i64 1, .string ⟨#[122]⟩, .slice none 0 0, .int .i64 1] : List Value)[j]? = some u → W.cell? ⟨w.heap.size + 1 + 1, j, none⟩ = some u := fun j u hu => by rw [← hW]; have h := zj ((w.alloc (.cells #[.slice (some ⟨w.heap.size + 1 + 1, 0, none⟩) 4 4] 43)).alloc (.cells #[.int .i64 1] 3)) [.string ⟨#[107]⟩, .slice (some ⟨w.heap.size + 1, 0, none⟩) 1 1, .int .i64 1, .string ⟨#[120]⟩, .slice none 0 0, .int .i64 1, .string ⟨#[121]⟩, .slice none 0 0, .int .i64 1, .string ⟨#[122]⟩, .slice none 0 0, .int .i64 1] 70 j u hu; simpa using h
  have ha1 : ∀ j u, (([1] : List Int).map (Value.int .i64))[j]? = some u → W.cell? ⟨w.heap.size + 1, j, none⟩ = some u := fun j u hu => by rw [← hW]; exact zb (by have h := zj (w.alloc (.cells #[.slice (some ⟨w.heap.size + 1 + 1, 0, none⟩) 4 4] 43)) [.int .i64 1] 3 j u (by simpa using hu); simpa using h) ((Below.refl _ _).alloc (Nat.le_refl _) _)
  clear hW
  have hv := ((sym1 W ⟨#[107]⟩ [1] 1 (w.heap.size + 1) (by decide) (by omega) (by simp) (by simp) (by intro x hx; simp at hx; unfold I64; omega) (by omega) ha1).app ((sym0 W ⟨#[120]⟩ 1 (by decide) (by omega)).app ((sym0 W ⟨#[121]⟩ 1 (by decide) (by omega)).app ((sym0 W ⟨#[122]⟩ 1 (by decide) (by omega)).app (by simp only [RdVs]; exact ⟨trivial, trivial⟩ : RdVs W [] [] [])))))
  refine bodyPost_ret (v := .agg #[.slice (some ⟨w.heap.size + 1 + 1, 0, none⟩) 4 4]) (by simp [results, Tryz.results44, go_sem, hr]) rfl ⟨⟨⟨[⟨⟨#[107]⟩, [1], 1⟩, ⟨⟨#[120]⟩, [], 1⟩, ⟨⟨#[121]⟩, [], 1⟩, ⟨⟨#[122]⟩, [], 1⟩]⟩, [.slice (some ⟨w.heap.size + 1 + 1, 0, none⟩) 4 4], (w.heap.size + 1 + 1) :: [w.heap.size + 1], ⟨⟨by simp, by simp⟩, by unfold Sg.nice; decide⟩, rfl, Sg.close (x := ⟨[⟨⟨#[107]⟩, [1], 1⟩, ⟨⟨#[120]⟩, [], 1⟩, ⟨⟨#[121]⟩, [], 1⟩, ⟨⟨#[122]⟩, [], 1⟩]⟩) (zaQ (k := 3) hs (by exact hv) (by simp) (by simp) (by simp) (by omega) (by omega)), by intro b hb; simp at hb; omega⟩, hB⟩
 ·subst k3
  go_enter Tryz.func44, Tryz.ntmps44
  go_wp2_with fail
  generalize hW : (((w.alloc (.cells #[.slice (some ⟨w.heap.size + 1 + 1 + 1, 0, none⟩) 5 5] 43)).alloc (.cells #[.int .i64 1] 3)).alloc (.cells #[.int .i64 1, .int .i64 0] 3)).alloc (.cells #[.string ⟨#[97]⟩, .slice none 0 0, .int .i64 0, .string ⟨#[117]⟩, .slice (some ⟨w.heap.size + 1, 0, none⟩) 1 1, .int .i64 0, .string ⟨#[118]⟩, .slice (some ⟨w.heap.size + 1 + 1, 0, none⟩) 2 2, .int .i64 1, .string ⟨#[120]⟩, .slice none 0 0, .int .i64 1, .string ⟨#[121]⟩, .slice none 0 0, .int .i64 1] 70) = W
  have hz : W.heap.size = w.heap.size + 4 := by rw [← hW]; simp
  have hB : Below w.heap.size w W := by rw [← hW]; exact (((((Below.refl _ _).alloc (Nat.le_refl _) _).alloc (by simp) _).alloc (by simp <;> omega) _).alloc (by simp <;> omega) _)
  have hr : W.cell? ⟨w.heap.size, 0, none⟩ = some (.slice (some ⟨w.heap.size + 1 + 1 + 1, 0, none⟩) 5 5) := by rw [← hW]; exact zb (zx _ _ _ 0) ((((Below.refl _ _).alloc (Nat.le_refl _) _).alloc (by simp) _).alloc (by simp <;> omega) _)
  have hs : ∀ j u, ([.string ⟨#[97]⟩, .slice none 0 0, .int .i64 0, .string ⟨#[117]⟩, .slice (some ⟨w.heap.size + 1, 0, none⟩) 1 1, .int .i64 0, .string ⟨#[118]⟩, .slice (some ⟨w.heap.size + 1 + 1, 0, none⟩) 2 2, .int .i64 1, .string ⟨#[120]⟩, .slice none 0 0, .int .i64 1, .string ⟨#[121]⟩, .slice none 0 0, .int .i64 1] : List Value)[j]? = some u → W.cell? ⟨w.heap.size + 1 + 1 + 1, j, none⟩ = some u := fun j u hu => by rw [← hW]; have h := zj (((w.alloc (.cells #[.slice (some ⟨w.heap.size + 1 + 1 + 1, 0, none⟩) 5 5] 43)).alloc (.cells #[.int .i64 1] 3)).alloc (.cells #[.int .i64 1, .int .i64 0] 3)) [.string ⟨#[97]⟩, .slice none 0 0, .int .i64 0, .string ⟨#[117]⟩, .slice (some ⟨w.heap.size + 1, 0, none⟩) 1 1, .int .i64 0, .string ⟨#[118]⟩, .slice (some ⟨w.heap.size + 1 + 1, 0, none⟩) 2 2, .int .i64 1, .string ⟨#[120]⟩, .slice none 0 0, .int .i64 1, .string ⟨#[121]⟩, .slice none 0 0, .int .i64 1] 70 j u hu; simpa using h
  have ha1 : ∀ j u, (([1] : List Int).map (Value.int .i64))[j]? = some u → W.cell? ⟨w.heap.size + 1, j, none⟩ = some u := fun j u hu => by rw [← hW]; exact zb (by have h := zj (w.alloc (.cells #[.slice (some ⟨w.heap.size + 1 + 1 + 1, 0, none⟩) 5 5] 43)) [.int .i64 1] 3 j u (by simpa using hu); simpa using h) (((Below.refl _ _).alloc (Nat.le_refl _) _).alloc (by simp) _)
  have ha2 : ∀ j u, (([1, 0] : List Int).map (Value.int .i64))[j]? = some u → W.cell? ⟨w.heap.size + 1 + 1, j, none⟩ = some u := fun j u hu => by rw [← hW]; exact zb (by have h := zj ((w.alloc (.cells #[.slice (some ⟨w.heap.size + 1 + 1 + 1, 0, none⟩) 5 5] 43)).alloc (.cells #[.int .i64 1] 3)) [.int .i64 1, .int .i64 0] 3 j u (by simpa using hu); simpa using h) ((Below.refl _ _).alloc (Nat.le_refl _) _)
  clear hW
  have hv := ((sym0 W ⟨#[97]⟩ 0 (by decide) (by omega)).app ((sym1 W ⟨#[117]⟩ [1] 0 (w.heap.size + 1) (by decide) (by omega) (by simp) (by simp) (by intro x hx; simp at hx; unfold I64; omega) (by omega) ha1).app ((sym1 W ⟨#[118]⟩ [1, 0] 1 (w.heap.size + 1 + 1) (by decide) (by omega) (by simp) (by simp) (by intro x hx; simp at hx; unfold I64; omega) (by omega) ha2).app ((sym0 W ⟨#[120]⟩ 1 (by decide) (by omega)).app ((sym0 W ⟨#[121]⟩ 1 (by decide) (by omega)).app (by simp only [RdVs]; exact ⟨trivial, trivial⟩ : RdVs W [] [] []))))))
  refine bodyPost_ret (v := .agg #[.slice (some ⟨w.heap.size + 1 + 1 + 1, 0, none⟩) 5 5]) (by simp [results, Tryz.results44, go_sem, hr]) rfl ⟨⟨⟨[⟨⟨#[97]⟩, [], 0⟩, ⟨⟨#[117]⟩, [1], 0⟩, ⟨⟨#[118]⟩, [1, 0], 1⟩, ⟨⟨#[120]⟩, [], 1⟩, ⟨⟨#[121]⟩, [], 1⟩]⟩, [.slice (some ⟨w.heap.size + 1 + 1 + 1, 0, none⟩) 5 5], (w.heap.size + 1 + 1 + 1) :: [w.heap.size + 1, w.heap.size + 1 + 1], ⟨⟨by simp, by simp⟩, by unfold Sg.nice; decide⟩, rfl, Sg.close (x := ⟨[⟨⟨#[97]⟩, [], 0⟩, ⟨⟨#[117]⟩, [1], 0⟩, ⟨⟨#[118]⟩, [1, 0], 1⟩, ⟨⟨#[120]⟩, [], 1⟩, ⟨⟨#[121]⟩, [], 1⟩]⟩) (zaQ (k := 3) hs (by exact hv) (by simp) (by simp) (by simp) (by omega) (by omega)), by intro b hb; simp at hb; omega⟩, hB⟩
theorem zdt (rb p : Nat) (w : World) (hp : p ≤ 1000000000) (h : Rdr w rb p) :
  Calls Tryz.prog 28 #[.pointer (some ⟨rb, 0, none⟩)] w fun e w' => (∃ (s : Sg) (vs : List Value) (f : List Nat), (s.few ∧ s.nice) ∧ e = .returned (.agg vs.toArray) ∧ RdVs w' s.cd vs f ∧ ∀ b ∈ f, w.heap.size ≤ b) ∧ Rdr w' rb (p + 1) ∧ Only [rb] w w' := by
 have hlt := h.lt
 go_enter Tryz.func28, Tryz.ntmps28
 go_wp2_with fail
 generalize hW : (w.alloc (.cells #[.slice none 0 0] 43)).alloc (.cells #[.int .i64 0, .int .i64 0, .int .i64 1, .int .i64 1, .int .i64 2, .int .i64 3, .int .i64 1, .int .i64 4] 3) = W
 have hz : W.heap.size = w.heap.size + 1 + 1 := by rw [← hW]; simp
 have hB : Below w.heap.size w W := by rw [← hW]; exact ((Below.refl _ _).alloc (Nat.le_refl _) _).alloc (by simp) _
 have hr : W.cell? ⟨w.heap.size, 0, none⟩ = some (.slice none 0 0) := by rw [← hW]; exact zb (zx _ _ _ 0) ((Below.refl _ _).alloc (Nat.le_refl _) _)
 have hrf : W.frozen? ⟨w.heap.size, 0, none⟩ = false := by rw [← hW]; exact (zh ((za _ _).block w.heap.size (by simp))).trans (zan _ _ _ 0)
 have hs : ∀ j u, (([0, 0, 1, 1, 2, 3, 1, 4] : List Int).map (Value.int .i64))[j]? = some u → W.cell? ⟨w.heap.size + 1, j, none⟩ = some u := fun j u hu => by rw [← hW]; have h := zj (w.alloc (.cells #[.slice none 0 0] 43)) [.int .i64 0, .int .i64 0, .int .i64 1, .int .i64 1, .int .i64 2, .int .i64 3, .int .i64 1, .int .i64 4] 3 j u (by simpa using hu); simpa using h
 clear hW
 refine (num_any [0, 0, 1, 1, 2, 3, 1, 4] rb p (w.heap.size + 1) _ hp (by simp) (by simp) (by omega) (by omega) (fun i hi => hs i _ (by rw [List.getElem?_map, List.getElem?_eq_getElem hi]; rfl)) (h.below hB)).mono ?_
 rintro e w1 ⟨⟨x, -, rfl⟩, hr1, ho1⟩
 have c1 := ho1.keep hr (by omega) (by omega)
 have f1 := ho1.free hrf (by omega) (by omega)
 have hz1 := ho1.size
 go_wp2_with fail
 refine (zcK x _).mono ?_
 rintro e w2 ⟨⟨s, vs, f, hfew, rfl, hrd, hf⟩, hb2⟩
 obtain ⟨a0, c0, f0, rfl, rfl, m0⟩ := Sg.open hrd
 have c2 := (hb2.cell (p := ⟨w.heap.size, 0, none⟩) (by show w.heap.size < _; omega)).trans c1
 have f2 := (zh (hb2.block w.heap.size (by omega))).trans f1
 have hz2 := hb2.size
 have z0 := World.cell?_setCell_same w2 ⟨w.heap.size, 0, none⟩ (.slice a0 s.syms.length c0) c2
 go_wp2_with fail
 refine bodyPost_ret (v := .agg #[.slice a0 s.syms.length c0]) (by simp [results, Tryz.results28, go_sem, z0]) rfl ⟨⟨s, [.slice a0 s.syms.length c0], f, hfew, rfl, hrd.same _ (zy (a := ⟨w.heap.size, 0, none⟩) (fun b hb => by have := hf b hb; show b ≠ w.heap.size; omega)), fun b hb => by have := hf b hb; omega⟩, (hr1.below hb2).set (by omega), (((Only.below hB).trans ho1).trans (Only.below hb2)).set_new (Nat.le_refl _)⟩
theorem zV (n : Nat) : ∀ (s : Sg) (vs : List Value) (sf : List Nat) (so deep : Int) (rb p : Nat) (w : World), 1 ≤ deep → deep ≤ n → n ≤ 4 → p + pcap n ≤ 1000000000 → s.few → s.nice → RdVs w s.cd vs sf → rb ∉ sf → Rdr w rb p →
  Calls Tryz.prog 33 #[.pointer (some ⟨rb, 0, none⟩), .agg vs.toArray, .int .i64 so, .int .i64 deep] w fun e w' => DrawnNice w (pcap n) n e w' ∧ Rdr w' rb (p + pcap n) ∧ Only [rb] w w' := by
 induction n with
 | zero => intro s vs sf so deep rb p w h1 h2; omega
 | succ n ih =>
  rintro s vs sf so deep rb p w h1 h2 h3 hp hfew hni hrd hnr hr
  obtain ⟨a0, c0, f0, rfl, rfl, m0⟩ := Sg.open hrd
  have IH := Lib.hid ih
  clear ih
  have hpc : pcap (n + 1) = 1 + 2 * pcap n := rfl
  have hlt := hr.lt
  have hsl : s.syms.length ≤ 5 := hfew.1
  have hfl := m0.lt _
  go_enter Tryz.func33, Tryz.ntmps33
  go_wp2_with fail
  go_loopw [9, 10] (fun ov i wr => ∃ (k : Nat) (fp : List Nat), k ≤ s.syms.length ∧ i = .int .i64 k ∧ Own wr (w.heap.size + 1 + 1) 70 3 ov ((s.words so deep k).map Sy.cd) fp ∧ Hid (∀ b ∈ fp, b ∈ sf) ∧ Below (w.heap.size + 1 + 1) ((w.alloc (.cells #[.slice a0 s.syms.length c0] 43)).alloc (.cells #[.string ⟨#[]⟩, .slice none 0 0] 25)) wr) (fun _ i _ => s.syms.length - (intOf i).toNat)
  case atStart => exact ⟨0, [], Nat.zero_le _, rfl, (by have h := Own.empty ((w.alloc (.cells #[.slice a0 s.syms.length c0] 43)).alloc (.cells #[.string ⟨#[]⟩, .slice none 0 0] 25)) (w.heap.size + 1 + 1) 70 3 (by simp); simp only [World.size_alloc] at h; exact h), Lib.hid (fun b hb => by simp at hb), (Below.refl _ _).alloc (by simp) _⟩
  case round =>
   obtain ⟨k, fp, hkl, rfl, hown, hsub, hb'⟩ := hrel
   have hzz := hb'.size
   simp only [World.size_alloc] at hzz
   obtain ⟨hx, hy, _, hb⟩ := box2 hb'
   have x0 : wr.cell? ⟨w.heap.size, 0, none⟩ = some (.slice a0 s.syms.length c0) := hx 0
   have r0 : wr.cell? ⟨w.heap.size + 1, 0, none⟩ = some (.string ⟨#[]⟩) := hy 0
   have r1 : wr.cell? ⟨w.heap.size + 1, 1, none⟩ = some (.slice none 0 0) := hy 1
   have rf0 := (zH hb' 0).2
   have rf1 := (zH hb' 1).2
   clear hx hy
   have hz := hb.size
   have m0w := m0.below hb
   by_cases hlt : k < s.syms.length
   ·obtain ⟨b, off, rfl, hbs, _⟩ := zl m0w (by omega)
    obtain ⟨a1, c1, f1, d0, d1, d2, n0, n1, n2, hsub1⟩ := Sy.at m0w hlt
    have hl : ((s.words so deep k).map Sy.cd).length ≤ 5 := by rw [zdX]; have := s.words_len so deep k; omega
    cases hc : ((s.syms[k].sort == so) && (decide (1 < deep) || ((s.syms[k].args.length : Int) == 0)))
    ·have HW := Lib.hid (Sg.words_no hlt hc)
     cases e1 : (s.syms[k].sort == so) <;> cases e2 : decide (1 < deep) <;> cases e3 : ((s.syms[k].args.length : Int) == 0) <;> first | (exfalso; rw [e1, e2, e3] at hc; exact absurd hc (by decide)) | skip
     all_goals
      clear hc
      go_wp2_with fail
      go_roundw
      case rel => exact ⟨k + 1, fp, by omega, by go_num, by rw [HW.out]; exact hown, hsub, hb'⟩
      case measure => simp [intOf]; omega
    ·have HW := Lib.hid (Sg.words_yes hlt hc)
     have hBA : Below wr.heap.size wr (wr.alloc (.cells #[.string s.syms[k].name, .slice a1 s.syms[k].args.length c1, .int .i64 s.syms[k].sort] 70)) := za _ _
     have hnews := (Sy.close (x := s.syms[k]) n0 n1 n2)
     cases e1 : (s.syms[k].sort == so) <;> cases e2 : decide (1 < deep) <;> cases e3 : ((s.syms[k].args.length : Int) == 0) <;> first | (exfalso; rw [e1, e2, e3] at hc; exact absurd hc (by decide)) | skip
     all_goals
      clear hc
      go_wp2_with (at_builtin; refine zq zbk rfl _ _ rfl (w.heap.size + 1 + 1) _ _ _ rfl (hown.below hBA) ⟨wr.heap.size, 0, none⟩ 1 1 [s.syms[k].cd] [.string s.syms[k].name, .slice a1 s.syms[k].args.length c1, .int .i64 s.syms[k].sort] f1 rfl rfl (by simpa using hnews.below hBA) (by simp [Sy.cd_len]) (by exact zp wr _ _) (fun y hy e => by have h1 := (hown.block e).1; have h2 := hfl y (hsub1 y hy); omega) (by omega) (by omega) (by simp; omega) ?_)
      intro v' w4 hown4 hg hv' hs4
      have hb4 := zk (hb'.trans (hBA.mono (by omega))) hg (by simp; omega) (fun q hq => (hown.block hq).1)
      go_wp2_with fail
      go_roundw
      case rel => exact ⟨k + 1, fp ++ f1, by omega, by go_num, by rw [HW.out, zdV]; exact hown4, Lib.hid (fun y hy => (zdS.1 hy).elim (hsub.out y) (hsub1 y)), hb4⟩
      case measure => simp [intOf]; omega
   ·have hke : k = s.syms.length := by omega
    obtain ⟨ws, hws⟩ : ∃ ws, ws = s.words so deep k := ⟨_, rfl⟩
    have hmem : ∀ y ∈ ws, y.args.length ≤ 2 ∧ (0 < y.args.length → 1 < deep) := fun y hy => by rw [hws] at hy; have h := Sg.words_mem hy; exact ⟨hfew.2 y h.1, h.2⟩
    have hwl : ws.length ≤ 5 := by rw [hws]; have := s.words_len so deep k; omega
    rw [← hws] at hown
    have HM := Lib.hid hmem
    have HNI := Lib.hid (fun y (hy : y ∈ ws) => hni.name (by rw [hws] at hy; exact (Sg.words_mem hy).1))
    clear hws hmem hke
    obtain ⟨oa, oc, he9, _, _⟩ := hown.form
    rw [zdX] at he9
    subst he9
    obtain ⟨fw, hw, hwf⟩ := hown.rd
    have hnw : rb ∉ fw := fun hm => by
     rcases hwf with ⟨_, _, rfl⟩ | ⟨b, c, _, rfl, _, hbb, _⟩
     ·simp at hm
     ·rcases zdW.1 hm with h | h
      ·omega
      ·exact hnr (hsub.out _ h)
    clear hwf hown hsub
    by_cases hz0 : ws.length = 0
    ·obtain ⟨z0, z1⟩ := zas (.string ⟨#[113]⟩) (.slice none 0 0) r0 r1
     go_wp2_with fail
     refine bodyPost_ret (v := .agg #[.string ⟨#[113]⟩, .slice none 0 0]) (by simp [results, Tryz.results33, go_sem, z0, z1]) rfl ⟨⟨.mk ⟨#[113]⟩ [], .slice none 0 0, [], ?_, rfl, by decide, Own.nil _ _ _ _, Fresh.nil _ _⟩, ?_, ?_⟩
     ·exact ⟨by simp [Tm.size, Tm.sizes, hpc], shape_q n⟩
     ·exact (((hr.below hb).set (by omega)).set (by omega)).mono (by omega)
     ·exact ((Only.below hb).set_new (by omega)).set_new (by omega)
    ·obtain ⟨bw, offw, rfl, hbw, hbwf⟩ := zl hw (by omega)
     go_wp2_with fail
     refine (zz rb p ws.length _ (by omega) (by omega) (by omega) (hr.below hb)).mono ?_
     rintro e w1 ⟨⟨m, hm, rfl⟩, hr1, ho1⟩
     have hm' : m < ws.length := by omega
     have hw1 := hw.only ho1 hnw
     obtain ⟨a1, c1, f1, d0, d1, d2, n0, n1, n2, hsub1⟩ := Sy.at hw1 hm'
     have hnf1 : rb ∉ f1 := fun h => hnw (hsub1 _ h)
     obtain ⟨hxa, hxd⟩ := HM.out ws[m] (zdT hm')
     obtain ⟨x, hx⟩ : ∃ x, x = ws[m] := ⟨_, rfl⟩
     have hxn := HNI.out ws[m] (zdT hm')
     rw [← hx] at d0 d1 d2 n0 n1 n2 hxa hxd hxn
     have hz1 := ho1.size
     have x01 := ho1.keep x0 (by omega) (by omega)
     have r01 := ho1.keep r0 (by omega) (by omega)
     have r11 := ho1.keep r1 (by omega) (by omega)
     have rf01 := ho1.free rf0 (by omega) (by omega)
     have rf11 := ho1.free rf1 (by omega) (by omega)
     have hbw1 : bw < w1.heap.size := by omega
     have hm1 := hrd.below hb
     have hrdw := (hrd.below hb).only ho1 hnr
     clear hw hw1 hm1 hx HM hbwf x0 r0 r1 rf0 rf1 hsub1 m0w
     have hON : Only [rb] w w1 := (Only.below hb).trans ho1
     clear hb hb' ho1 hz
     go_wp2_with fail
     go_loopw [13] (fun i wq => ∃ (k : Nat) (fp : List Nat) (ov : Value) (kids : List Tm), k ≤ x.args.length ∧ i = .int .i64 k ∧ kids.length = k ∧ Tm.sizes kids ≤ k * pcap n ∧ Hid (Tm.shapes kids n = true) ∧ Own wq (w1.heap.size + 1 + 1) 25 2 ov (kids.map Tm.cd) fp ∧ Fresh (w1.heap.size + 1 + 1) wq fp ∧
      wq.cell? ⟨w1.heap.size + 1, 0, none⟩ = some (.string x.name) ∧ wq.cell? ⟨w1.heap.size + 1, 1, none⟩ = some ov ∧ wq.frozen? ⟨w1.heap.size + 1, 1, none⟩ = false ∧ w1.heap.size + 1 + 1 ≤ wq.heap.size ∧ Rdr wq rb (p + 1 + k * pcap n) ∧
      Only [rb] (w1.alloc (.cells #[.string x.name, .slice a1 x.args.length c1, .int .i64 x.sort] 70)) wq) (fun i _ => x.args.length - (intOf i).toNat)
     case atStart => exact ⟨0, [], .slice none 0 0, [], Nat.zero_le _, rfl, rfl, by simp [Tm.sizes], Lib.hid (by simp [Tm.shapes]), Own.nil _ _ _ _, Fresh.nil _ _, by simp [go_sem], by simp [go_sem], by simp [go_sem], by simp, by simpa using (hr1.alloc _).alloc _, (Only.refl _ _).alloc _⟩
     case round =>
      obtain ⟨k, fp, ov, kids, hkl, rfl, hkn, hks, hsh, hown, hfr, y0, y1, fz1, hzq, hrq, hoq⟩ := hrel
      have hkc : k * pcap n ≤ 2 * pcap n := Nat.mul_le_mul_right _ (by omega)
      have hBA := za w1 (.cells #[.string x.name, .slice a1 x.args.length c1, .int .i64 x.sort] 70)
      have xq : wr.cell? ⟨w.heap.size, 0, none⟩ = some (.slice a0 s.syms.length c0) := hoq.keep (zb x01 hBA) (by simp; omega) (by omega)
      have g1 : wr.cell? ⟨w1.heap.size, 1, none⟩ = some (.slice a1 x.args.length c1) := hoq.keep (zj w1 _ _ 1 _ rfl) (by simp) (by omega)
      have hrdq : RdVs wr s.cd [.slice a0 s.syms.length c0] sf := (hrdw.below hBA).only hoq hnr
      have n1q := (n1.below hBA).only hoq hnf1
      by_cases hlt : k < x.args.length
      ·obtain ⟨ba, offa, rfl, hba, _⟩ := zl n1q (by omega)
       obtain ⟨ga, _⟩ := zK n1q hlt
       have hkc2 : (k + 1) * pcap n ≤ 2 * pcap n := Nat.mul_le_mul_right _ (by omega)
       have hkm : (k + 1) * pcap n = k * pcap n + pcap n := by rw [Nat.add_mul, Nat.one_mul]
       have hnfp := hfr.notin (rb := rb) (by omega)
       have hd1 : 1 < deep := hxd (by omega)
       have hwd : IntKind.i64.wrap (deep - 1) = deep - 1 := by rw [IntKind.wrap_i64]; omega
       go_wp2_with fail
       have tok1 : True := trivial
       go_region_law (first
        | (have _t := @hown2; refine zE zaz rfl _ _ rfl (w1.heap.size + 1 + 1) _ _ fp rfl (by exact hown2) ⟨w2.heap.size, 0, none⟩ 1 1 [t3.cd] [.string t3.name, .slice a3 t3.kids.length cap3] fp3 rfl rfl (by simpa using Tm.rdvs hnm3 hr3') (by simp [Tm.cd_len]) (by exact zp _ _ _) (by exact hown.away hoz2 hf3) (by rw [zdX]; omega) (by rw [zdX]; omega) (by simp; omega) ?_; intro v' w4 hown4 hg hv' hs4; obtain ⟨a4, n4, c4, rfl⟩ := hown4.form'; have hcb := zS hon2 hg (b := w1.heap.size + 1) (by omega) (by omega) (hown.row_ne (by omega)); have y0' := zo hcb y0; have y1' := zo hcb y1; have f1' := zD hcb fz1; clear hcb)
        | (have _t := tok1; clear _t tok1; go_simp; go_at_call 33; refine (IH.out s _ sf _ _ rb (p + 1 + k * pcap n) _ (by omega) (by omega) (by omega) (by omega) hfew hni (by exact hrdq.below (zd _)) hnr (by exact hrq)).mono ?_; rintro e w2 ⟨⟨t3, kv3, fo3, ⟨hsz3, hsh3⟩, rfl, hnm3, hro3, hfo3⟩, hr2, hon2⟩; have hon2 := Only.undrew hon2; obtain ⟨fp3, hr3, hf3, _⟩ := hro3.fresh hfo3; obtain ⟨a3, cap3, rfl, hg1, hg2⟩ := zao hr3; have hz2 := hon2.size; have hoz2 : wr.heap.size ≤ wr.drew.heap.size := Nat.le_refl _; have hlz : w1.heap.size + 1 < w2.heap.size := (by omega); have y0w := hon2.keep y0 (by omega) (by omega); have y1w := hon2.keep y1 (by omega) (by omega); have f1w := hon2.free fz1 (by omega) (by omega); have hown2 := (hown.only hon2 (by omega) hnfp).below (za w2 (.cells #[.string t3.name, .slice a3 t3.kids.length cap3] 25)); have hr3' := hr3.below (za w2 (.cells #[.string t3.name, .slice a3 t3.kids.length cap3] 25))))
       all_goals
        have hfr4 := ((Fresh.app (hfr.only hon2 (by omega)) hfr.lt hzq hf3).below (za w2 (.cells #[.string t3.name, .slice a3 t3.kids.length cap3] 25))).same hs4
        have hsz4 := hg.size
        simp only [World.size_alloc] at hsz4
        have hown5 := hown4.set_other hfr4 (b := w1.heap.size + 1) (j := 1) (u := .slice a4 n4 c4) (by omega)
        have hfr5 := hfr4.same (zy (a := ⟨w1.heap.size + 1, 1, none⟩) (v := .slice a4 n4 c4) (hfr4.ne (by simp)))
        have y0'' := (World.cell?_setCell_other w4 ⟨w1.heap.size + 1, 1, none⟩ ⟨w1.heap.size + 1, 0, none⟩ (.slice a4 n4 c4) (by simp)).trans y0'
        have y1'' := World.cell?_setCell_same w4 ⟨w1.heap.size + 1, 1, none⟩ (.slice a4 n4 c4) y1'
        have hrow : ∀ q, Value.ownBlock ov = some q → w1.heap.size + 1 + 1 ≤ q := fun q hq => (hown.block hq).1
        have hr5 := (((hr2.alloc (.cells #[.string t3.name, .slice a3 t3.kids.length cap3] 25)).grown hg (fun q hq => by have := hrow q hq; omega)).set (b := w1.heap.size + 1) (i := 1) (u := .slice a4 n4 c4) (by omega))
        have ho5 := (((hoq.trans hon2).alloc (.cells #[.string t3.name, .slice a3 t3.kids.length cap3] 25)).grown hg (fun q hq => by have := hrow q hq; simp; omega)).set_new (b := w1.heap.size + 1) (i := 1) (u := .slice a4 n4 c4) (by simp)
        go_wp2_with fail
        go_roundw
        case rel => exact ⟨k + 1, fp ++ fp3, .slice a4 n4 c4, kids ++ [t3], by omega, by go_num, by simp [hkn], by rw [Tm.sizes_append]; simp only [Tm.sizes]; omega, Lib.hid (zcJ hsh.out hsh3), by rw [zdV]; simpa using hown5, hfr5, y0'', y1'', by simp [go_sem, f1'], by simp [World.setCell]; omega, by rw [hkm, ← Nat.add_assoc]; exact hr5, ho5⟩
        case measure => simp [intOf]; omega
      ·obtain ⟨oa, on, oc, rfl⟩ := hown.form'
       have q0 := hoq.keep (zb r01 hBA) (by simp; omega) (by omega)
       have q1 := hoq.keep (zb r11 hBA) (by simp; omega) (by omega)
       have qf0 := hoq.free ((zh (hBA.block (w.heap.size + 1) (by omega))).trans rf01) (by simp; omega) (by omega)
       have qf1 := hoq.free ((zh (hBA.block (w.heap.size + 1) (by omega))).trans rf11) (by simp; omega) (by omega)
       obtain ⟨z0, z1⟩ := zas (.string x.name) (.slice oa on oc) q0 q1
       have hon0 : (w.heap.size + 1) ∉ fp := hfr.notin (by omega)
       go_wp2_with fail
       refine bodyPost_ret (v := .agg #[.string x.name, .slice oa on oc]) (by simp [results, Tryz.results33, go_sem, z0, z1]) rfl ⟨⟨.mk x.name kids, _, fp, ?_, rfl, n0, ?_, ?_⟩, ?_, ?_⟩
       ·exact ⟨by simp only [Tm.size]; omega, shape_mk hxn (by omega) hsh.out⟩
       ·exact ((hown.set_row (by omega) hon0).set_row (by omega) hon0).base (fun q hq => by have := (hown.block hq).1; omega)
       ·exact (hfr.same (zai (hfr.ne (by omega)))).mono (by omega)
       ·exact (((hrq.set (by omega)).set (by omega)).mono (by omega))
       ·exact (((hON.trans (Only.below hBA)).trans hoq).set_new (by omega)).set_new (by omega)
end Go.Proofs.YtoehhbkhdddeeaaGreatDoor
end
