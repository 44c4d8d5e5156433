/- Parts of the proof: RdrT RdrW PutC PutE. -/
import Derived.Test.YtbfinjiledfpcaaGreatPT4
import Derived.Deep.RegionHeld3
import Derived.Deep.CutRange
import Derived.Test.YtbfinjiledfpcaaGreatPT3
import Derived.Test.YtbfinjiledfpcaaGreatPT8
section
namespace Go.Proofs.YtbfinjiledfpcaaGreat
open Go Go.RowKit
set_option linter.unusedVariables false
set_option linter.unusedSimpArgs false
set_option maxRecDepth 100000
set_option maxHeartbeats 16000000
/-- Names are right. -/
def Sg.nice (s : Sg) : Prop := s.Y.all (fun y => zat y.name) = true
theorem Sg.nice.name {s : Sg} (h : s.nice) {y : Sy} (hy : y ∈ s.Y) : zat y.name = true := List.all_eq_true.1 h y hy
/-- A term that was drawn, right but for the words' arguments. -/
def DrawnNice (w : World) (cap n : Nat) (e : Ending) (w' : World) : Prop := ∃ (t : Tm) (kv : Value) (fp : List Nat), (t.size ≤ cap ∧ Tm.shape t n = true) ∧ e = .returned (.agg #[.string t.name, kv]) ∧ t.name.size ≤ maxLen ∧ Own w' w.heap.size 28 2 kv (t.K.map Tm.cd) fp ∧ Fresh w.heap.size w' fp
theorem zeS {ts : List Tm} {t : Tm} {d : Int} (h : Tm.shapes ts d = true) (h' : Tm.shape t d = true) : Tm.shapes (ts ++ [t]) d = true := by
 rw [Tm.shapes_all] at h ⊢; rw [List.all_append, h]; simp [h']
theorem shape_q (n : Nat) : Tm.shape (.mk ⟨#[113]⟩ []) ((n + 1 : Nat) : Int) = true := by
 have h : zat ⟨#[113]⟩ = true := by decide
 rw [Tm.shape_eq]; simp [Tm.name, Tm.K, h, Tm.shapes]; try omega
theorem shape_mk {nm : ByteArray} {ks : List Tm} {n : Nat} (h : zat nm = true) (hl : ks.length ≤ 2) (hs : Tm.shapes ks n = true) : Tm.shape (.mk nm ks) ((n + 1 : Nat) : Int) = true := by
 rw [Tm.shape_eq]
 have h1 : ((n + 1 : Nat) : Int) - 1 = (n : Int) := by omega
 simp only [Tm.name, Tm.K, h, h1, hs, Bool.and_true, zgm, decide_eq_true_eq]; exact ⟨by omega, decide_eq_true hl⟩
theorem zeT (k : Int) (w : World) :
  Calls Tryz.prog 135 #[.int .i64 k] w fun e w' => (∃ (s : Sg) (vs : List Value) (f : List Nat), (s.few ∧ s.nice) ∧ e = .returned (.agg vs.toArray) ∧ RdVs w' s.cd vs f ∧ ∀ b ∈ f, w.heap.size ≤ b) ∧ Below w.heap.size w w' := by
 by_cases k0 : k = 0
 rotate_left
 by_cases k1 : k = 1
 rotate_left
 by_cases k2 : k = 2
 rotate_left
 by_cases k3 : k = 3
 rotate_left
 ·have d0 : (k == 0) = false := by simpa using k0
  have d1 : (k == 1) = false := by simpa using k1
  have d2 : (k == 2) = false := by simpa using k2
  have d3 : (k == 3) = false := by simpa using k3
  go_enter Tryz.func135, Tryz.ntmps135; go_wp2_with fail; generalize hW : (w.alloc (.cells #[.slice (some ⟨w.heap.size + 1, 0, none⟩) 0 0] 25)).alloc (.cells #[] 109) = W
  have hz : W.heap.size = w.heap.size + 2 := by rw [← hW]; simp
  have hB : Below w.heap.size w W := by rw [← hW]; exact (((zgz _ _).alloc (zgo _) _).alloc (by simp) _)
  have hr : W.cell? ⟨w.heap.size, 0, none⟩ = some (.slice (some ⟨w.heap.size + 1, 0, none⟩) 0 0) := by rw [← hW]; exact za (zt _ _ _ 0) ((zgz _ _).alloc (zgo _) _)
  have hs : ∀ j u, ([] : List Value)[j]? = some u → W.cell? ⟨w.heap.size + 1, j, none⟩ = some u := fun j u hu => by simp at hu
  clear hW; exact bodyPost_ret (v := .agg #[.slice (some ⟨w.heap.size + 1, 0, none⟩) 0 0]) (by simp [results, Tryz.results135, go_sem, hr]) rfl ⟨⟨⟨[]⟩, [.slice (some ⟨w.heap.size + 1, 0, none⟩) 0 0], [], ⟨⟨by simp, by simp⟩, by unfold Sg.nice; decide⟩, rfl, Sg.close (x := ⟨[]⟩) (zfa _), by simp⟩, hB⟩
 ·subst k0
  go_enter Tryz.func135, Tryz.ntmps135; go_wp2_with fail; generalize hW : (((w.alloc (.cells #[.slice (some ⟨w.heap.size + 1 + 1 + 1, 0, none⟩) 5 5] 25)).alloc (.cells #[.int .i64 0] 3)).alloc (.cells #[.int .i64 0, .int .i64 0] 3)).alloc (.cells #[.string ⟨#[97]⟩, .slice none 0 0, .int .i64 0, .string ⟨#[98]⟩, .slice none 0 0, .int .i64 0, .string ⟨#[99]⟩, .slice none 0 0, .int .i64 0, .string ⟨#[102]⟩, .slice (some ⟨w.heap.size + 1, 0, none⟩) 1 1, .int .i64 0, .string ⟨#[103]⟩, .slice (some ⟨w.heap.size + 1 + 1, 0, none⟩) 2 2, .int .i64 0] 109) = W
  have hz : W.heap.size = w.heap.size + 4 := by rw [← hW]; simp
  have hB : Below w.heap.size w W := by rw [← hW]; exact (((((zgz _ _).alloc (zgo _) _).alloc (by simp) _).alloc (by simp <;> omega) _).alloc (by simp <;> omega) _)
  have hr : W.cell? ⟨w.heap.size, 0, none⟩ = some (.slice (some ⟨w.heap.size + 1 + 1 + 1, 0, none⟩) 5 5) := by rw [← hW]; exact za (zt _ _ _ 0) ((((zgz _ _).alloc (zgo _) _).alloc (by simp) _).alloc (by simp <;> omega) _)
  have hs : ∀ j u, ([.string ⟨#[97]⟩, .slice none 0 0, .int .i64 0, .string ⟨#[98]⟩, .slice none 0 0, .int .i64 0, .string ⟨#[99]⟩, .slice none 0 0, .int .i64 0, .string ⟨#[102]⟩, .slice (some ⟨w.heap.size + 1, 0, none⟩) 1 1, .int .i64 0, .string ⟨#[103]⟩, .slice (some ⟨w.heap.size + 1 + 1, 0, none⟩) 2 2, .int .i64 0] : List Value)[j]? = some u → W.cell? ⟨w.heap.size + 1 + 1 + 1, j, none⟩ = some u := fun j u hu => by rw [← hW]; have h := zx (((w.alloc (.cells #[.slice (some ⟨w.heap.size + 1 + 1 + 1, 0, none⟩) 5 5] 25)).alloc (.cells #[.int .i64 0] 3)).alloc (.cells #[.int .i64 0, .int .i64 0] 3)) [.string ⟨#[97]⟩, .slice none 0 0, .int .i64 0, .string ⟨#[98]⟩, .slice none 0 0, .int .i64 0, .string ⟨#[99]⟩, .slice none 0 0, .int .i64 0, .string ⟨#[102]⟩, .slice (some ⟨w.heap.size + 1, 0, none⟩) 1 1, .int .i64 0, .string ⟨#[103]⟩, .slice (some ⟨w.heap.size + 1 + 1, 0, none⟩) 2 2, .int .i64 0] 109 j u hu; simpa using h
  have ha1 : ∀ j u, (([0] : List Int).map (Value.int .i64))[j]? = some u → W.cell? ⟨w.heap.size + 1, j, none⟩ = some u := fun j u hu => by rw [← hW]; exact za (by have h := zx (w.alloc (.cells #[.slice (some ⟨w.heap.size + 1 + 1 + 1, 0, none⟩) 5 5] 25)) [.int .i64 0] 3 j u (by simpa using hu); simpa using h) (((zgz _ _).alloc (zgo _) _).alloc (by simp) _)
  have ha2 : ∀ j u, (([0, 0] : List Int).map (Value.int .i64))[j]? = some u → W.cell? ⟨w.heap.size + 1 + 1, j, none⟩ = some u := fun j u hu => by rw [← hW]; exact za (by have h := zx ((w.alloc (.cells #[.slice (some ⟨w.heap.size + 1 + 1 + 1, 0, none⟩) 5 5] 25)).alloc (.cells #[.int .i64 0] 3)) [.int .i64 0, .int .i64 0] 3 j u (by simpa using hu); simpa using h) ((zgz _ _).alloc (zgo _) _)
  clear hW; have hv := ((sym0 W ⟨#[97]⟩ 0 (by decide) (by omega)).app ((sym0 W ⟨#[98]⟩ 0 (by decide) (by omega)).app ((sym0 W ⟨#[99]⟩ 0 (by decide) (by omega)).app ((sym1 W ⟨#[102]⟩ [0] 0 (w.heap.size + 1) (by decide) (by omega) (by simp) (by simp) (by intro x hx; simp at hx; unfold I64; omega) (by omega) ha1).app ((sym1 W ⟨#[103]⟩ [0, 0] 0 (w.heap.size + 1 + 1) (by decide) (by omega) (by simp) (by simp) (by intro x hx; simp at hx; unfold I64; omega) (by omega) ha2).app (by simp only [RdVs]; exact ⟨trivial, trivial⟩ : RdVs W [] [] [])))))); refine bodyPost_ret (v := .agg #[.slice (some ⟨w.heap.size + 1 + 1 + 1, 0, none⟩) 5 5]) (by simp [results, Tryz.results135, go_sem, hr]) rfl ⟨⟨⟨[⟨⟨#[97]⟩, [], 0⟩, ⟨⟨#[98]⟩, [], 0⟩, ⟨⟨#[99]⟩, [], 0⟩, ⟨⟨#[102]⟩, [0], 0⟩, ⟨⟨#[103]⟩, [0, 0], 0⟩]⟩, [.slice (some ⟨w.heap.size + 1 + 1 + 1, 0, none⟩) 5 5], (w.heap.size + 1 + 1 + 1) :: [w.heap.size + 1, w.heap.size + 1 + 1], ⟨⟨by simp, by simp⟩, by unfold Sg.nice; decide⟩, rfl, Sg.close (x := ⟨[⟨⟨#[97]⟩, [], 0⟩, ⟨⟨#[98]⟩, [], 0⟩, ⟨⟨#[99]⟩, [], 0⟩, ⟨⟨#[102]⟩, [0], 0⟩, ⟨⟨#[103]⟩, [0, 0], 0⟩]⟩) (zbR (k := 3) hs (by exact hv) (by simp) (by simp) (by simp) (by omega) (by omega)), by intro b hb; simp at hb; omega⟩, hB⟩
 ·subst k1
  go_enter Tryz.func135, Tryz.ntmps135; go_wp2_with fail; generalize hW : ((w.alloc (.cells #[.slice (some ⟨w.heap.size + 1 + 1, 0, none⟩) 5 5] 25)).alloc (.cells #[.int .i64 0] 3)).alloc (.cells #[.string ⟨#[97]⟩, .slice none 0 0, .int .i64 0, .string ⟨#[98]⟩, .slice none 0 0, .int .i64 0, .string ⟨#[104]⟩, .slice (some ⟨w.heap.size + 1, 0, none⟩) 1 1, .int .i64 1, .string ⟨#[120]⟩, .slice none 0 0, .int .i64 1, .string ⟨#[121]⟩, .slice none 0 0, .int .i64 1] 109) = W
  have hz : W.heap.size = w.heap.size + 3 := by rw [← hW]; simp
  have hB : Below w.heap.size w W := by rw [← hW]; exact ((((zgz _ _).alloc (zgo _) _).alloc (by simp) _).alloc (by simp <;> omega) _)
  have hr : W.cell? ⟨w.heap.size, 0, none⟩ = some (.slice (some ⟨w.heap.size + 1 + 1, 0, none⟩) 5 5) := by rw [← hW]; exact za (zt _ _ _ 0) (((zgz _ _).alloc (zgo _) _).alloc (by simp) _)
  have hs : ∀ j u, ([.string ⟨#[97]⟩, .slice none 0 0, .int .i64 0, .string ⟨#[98]⟩, .slice none 0 0, .int .i64 0, .string ⟨#[104]⟩, .slice (some ⟨w.heap.size + 1, 0, none⟩) 1 1, .int .i64 1, .string ⟨#[120]⟩, .slice none 0 0, .int .i64 1, .string ⟨#[121]⟩, .slice none 0 0, .int .i64 1] : List Value)[j]? = some u → W.cell? ⟨w.heap.size + 1 + 1, j, none⟩ = some u := fun j u hu => by rw [← hW]; have h := zx ((w.alloc (.cells #[.slice (some ⟨w.heap.size + 1 + 1, 0, none⟩) 5 5] 25)).alloc (.cells #[.int .i64 0] 3)) [.string ⟨#[97]⟩, .slice none 0 0, .int .i64 0, .string ⟨#[98]⟩, .slice none 0 0, .int .i64 0, .string ⟨#[104]⟩, .slice (some ⟨w.heap.size + 1, 0, none⟩) 1 1, .int .i64 1, .string ⟨#[120]⟩, .slice none 0 0, .int .i64 1, .string ⟨#[121]⟩, .slice none 0 0, .int .i64 1] 109 j u hu; simpa using h
  have ha1 : ∀ j u, (([0] : List Int).map (Value.int .i64))[j]? = some u → W.cell? ⟨w.heap.size + 1, j, none⟩ = some u := fun j u hu => by rw [← hW]; exact za (by have h := zx (w.alloc (.cells #[.slice (some ⟨w.heap.size + 1 + 1, 0, none⟩) 5 5] 25)) [.int .i64 0] 3 j u (by simpa using hu); simpa using h) ((zgz _ _).alloc (zgo _) _)
  clear hW; have hv := ((sym0 W ⟨#[97]⟩ 0 (by decide) (by omega)).app ((sym0 W ⟨#[98]⟩ 0 (by decide) (by omega)).app ((sym1 W ⟨#[104]⟩ [0] 1 (w.heap.size + 1) (by decide) (by omega) (by simp) (by simp) (by intro x hx; simp at hx; unfold I64; omega) (by omega) ha1).app ((sym0 W ⟨#[120]⟩ 1 (by decide) (by omega)).app ((sym0 W ⟨#[121]⟩ 1 (by decide) (by omega)).app (by simp only [RdVs]; exact ⟨trivial, trivial⟩ : RdVs W [] [] [])))))); refine bodyPost_ret (v := .agg #[.slice (some ⟨w.heap.size + 1 + 1, 0, none⟩) 5 5]) (by simp [results, Tryz.results135, go_sem, hr]) rfl ⟨⟨⟨[⟨⟨#[97]⟩, [], 0⟩, ⟨⟨#[98]⟩, [], 0⟩, ⟨⟨#[104]⟩, [0], 1⟩, ⟨⟨#[120]⟩, [], 1⟩, ⟨⟨#[121]⟩, [], 1⟩]⟩, [.slice (some ⟨w.heap.size + 1 + 1, 0, none⟩) 5 5], (w.heap.size + 1 + 1) :: [w.heap.size + 1], ⟨⟨by simp, by simp⟩, by unfold Sg.nice; decide⟩, rfl, Sg.close (x := ⟨[⟨⟨#[97]⟩, [], 0⟩, ⟨⟨#[98]⟩, [], 0⟩, ⟨⟨#[104]⟩, [0], 1⟩, ⟨⟨#[120]⟩, [], 1⟩, ⟨⟨#[121]⟩, [], 1⟩]⟩) (zbR (k := 3) hs (by exact hv) (by simp) (by simp) (by simp) (by omega) (by omega)), by intro b hb; simp at hb; omega⟩, hB⟩
 ·subst k2
  go_enter Tryz.func135, Tryz.ntmps135; go_wp2_with fail; generalize hW : ((w.alloc (.cells #[.slice (some ⟨w.heap.size + 1 + 1, 0, none⟩) 4 4] 25)).alloc (.cells #[.int .i64 1] 3)).alloc (.cells #[.string ⟨#[107]⟩, .slice (some ⟨w.heap.size + 1, 0, none⟩) 1 1, .int .i64 1, .string ⟨#[120]⟩, .slice none 0 0, .int .i64 1, .string ⟨#[121]⟩, .slice none 0 0, .int .i64 1, .string ⟨#[122]⟩, .slice none 0 0, .int .i64 1] 109) = W
  have hz : W.heap.size = w.heap.size + 3 := by rw [← hW]; simp
  have hB : Below w.heap.size w W := by rw [← hW]; exact ((((zgz _ _).alloc (zgo _) _).alloc (by simp) _).alloc (by simp <;> omega) _)
  have hr : W.cell? ⟨w.heap.size, 0, none⟩ = some (.slice (some ⟨w.heap.size + 1 + 1, 0, none⟩) 4 4) := by rw [← hW]; exact za (zt _ _ _ 0) (((zgz _ _).alloc (zgo _) _).alloc (by simp) _)
  have hs : ∀ j u, ([.string ⟨#[107]⟩, .slice (some ⟨w.heap.size + 1, 0, none⟩) 1 1, .int .i64 1, .string ⟨#[120]⟩, .slice none 0 0, .int .i64 1, .string ⟨#[121]⟩, .slice none 0 0, .int .i64 1, .string ⟨#[122]⟩, .slice none 0 0, .int .i64 1] : List Value)[j]? = some u → W.cell? ⟨w.heap.size + 1 + 1, j, none⟩ = some u := fun j u hu => by rw [← hW]; have h := zx ((w.alloc (.cells #[.slice (some ⟨w.heap.size + 1 + 1, 0, none⟩) 4 4] 25)).alloc (.cells #[.int .i64 1] 3)) [.string ⟨#[107]⟩, .slice (some ⟨w.heap.size + 1, 0, none⟩) 1 1, .int .i64 1, .string ⟨#[120]⟩, .slice none 0 0, .int .i64 1, .string ⟨#[121]⟩, .slice none 0 0, .int .i64 1, .string ⟨#[122]⟩, .slice none 0 0, .int .i64 1] 109 j u hu; simpa using h
  have ha1 : ∀ j u, (([1] : List Int).map (Value.int .i64))[j]? = some u → W.cell? ⟨w.heap.size + 1, j, none⟩ = some u := fun j u hu => by rw [← hW]; exact za (by have h := zx (w.alloc (.cells #[.slice (some ⟨w.heap.size + 1 + 1, 0, none⟩) 4 4] 25)) [.int .i64 1] 3 j u (by simpa using hu); simpa using h) ((zgz _ _).alloc (zgo _) _)
  clear hW; have hv := ((sym1 W ⟨#[107]⟩ [1] 1 (w.heap.size + 1) (by decide) (by omega) (by simp) (by simp) (by intro x hx; simp at hx; unfold I64; omega) (by omega) ha1).app ((sym0 W ⟨#[120]⟩ 1 (by decide) (by omega)).app ((sym0 W ⟨#[121]⟩ 1 (by decide) (by omega)).app ((sym0 W ⟨#[122]⟩ 1 (by decide) (by omega)).app (by simp only [RdVs]; exact ⟨trivial, trivial⟩ : RdVs W [] [] []))))); refine bodyPost_ret (v := .agg #[.slice (some ⟨w.heap.size + 1 + 1, 0, none⟩) 4 4]) (by simp [results, Tryz.results135, go_sem, hr]) rfl ⟨⟨⟨[⟨⟨#[107]⟩, [1], 1⟩, ⟨⟨#[120]⟩, [], 1⟩, ⟨⟨#[121]⟩, [], 1⟩, ⟨⟨#[122]⟩, [], 1⟩]⟩, [.slice (some ⟨w.heap.size + 1 + 1, 0, none⟩) 4 4], (w.heap.size + 1 + 1) :: [w.heap.size + 1], ⟨⟨by simp, by simp⟩, by unfold Sg.nice; decide⟩, rfl, Sg.close (x := ⟨[⟨⟨#[107]⟩, [1], 1⟩, ⟨⟨#[120]⟩, [], 1⟩, ⟨⟨#[121]⟩, [], 1⟩, ⟨⟨#[122]⟩, [], 1⟩]⟩) (zbR (k := 3) hs (by exact hv) (by simp) (by simp) (by simp) (by omega) (by omega)), by intro b hb; simp at hb; omega⟩, hB⟩
 ·subst k3
  go_enter Tryz.func135, Tryz.ntmps135; go_wp2_with fail; generalize hW : (((w.alloc (.cells #[.slice (some ⟨w.heap.size + 1 + 1 + 1, 0, none⟩) 5 5] 25)).alloc (.cells #[.int .i64 1] 3)).alloc (.cells #[.int .i64 1, .int .i64 0] 3)).alloc (.cells #[.string ⟨#[97]⟩, .slice none 0 0, .int .i64 0, .string ⟨#[117]⟩, .slice (some ⟨w.heap.size + 1, 0, none⟩) 1 1, .int .i64 0, .string ⟨#[118]⟩, .slice (some ⟨w.heap.size + 1 + 1, 0, none⟩) 2 2, .int .i64 1, .string ⟨#[120]⟩, .slice none 0 0, .int .i64 1, .string ⟨#[121]⟩, .slice none 0 0, .int .i64 1] 109) = W
  have hz : W.heap.size = w.heap.size + 4 := by rw [← hW]; simp
  have hB : Below w.heap.size w W := by rw [← hW]; exact (((((zgz _ _).alloc (zgo _) _).alloc (by simp) _).alloc (by simp <;> omega) _).alloc (by simp <;> omega) _)
  have hr : W.cell? ⟨w.heap.size, 0, none⟩ = some (.slice (some ⟨w.heap.size + 1 + 1 + 1, 0, none⟩) 5 5) := by rw [← hW]; exact za (zt _ _ _ 0) ((((zgz _ _).alloc (zgo _) _).alloc (by simp) _).alloc (by simp <;> omega) _)
  have hs : ∀ j u, ([.string ⟨#[97]⟩, .slice none 0 0, .int .i64 0, .string ⟨#[117]⟩, .slice (some ⟨w.heap.size + 1, 0, none⟩) 1 1, .int .i64 0, .string ⟨#[118]⟩, .slice (some ⟨w.heap.size + 1 + 1, 0, none⟩) 2 2, .int .i64 1, .string ⟨#[120]⟩, .slice none 0 0, .int .i64 1, .string ⟨#[121]⟩, .slice none 0 0, .int .i64 1] : List Value)[j]? = some u → W.cell? ⟨w.heap.size + 1 + 1 + 1, j, none⟩ = some u := fun j u hu => by rw [← hW]; have h := zx (((w.alloc (.cells #[.slice (some ⟨w.heap.size + 1 + 1 + 1, 0, none⟩) 5 5] 25)).alloc (.cells #[.int .i64 1] 3)).alloc (.cells #[.int .i64 1, .int .i64 0] 3)) [.string ⟨#[97]⟩, .slice none 0 0, .int .i64 0, .string ⟨#[117]⟩, .slice (some ⟨w.heap.size + 1, 0, none⟩) 1 1, .int .i64 0, .string ⟨#[118]⟩, .slice (some ⟨w.heap.size + 1 + 1, 0, none⟩) 2 2, .int .i64 1, .string ⟨#[120]⟩, .slice none 0 0, .int .i64 1, .string ⟨#[121]⟩, .slice none 0 0, .int .i64 1] 109 j u hu; simpa using h
  have ha1 : ∀ j u, (([1] : List Int).map (Value.int .i64))[j]? = some u → W.cell? ⟨w.heap.size + 1, j, none⟩ = some u := fun j u hu => by rw [← hW]; exact za (by have h := zx (w.alloc (.cells #[.slice (some ⟨w.heap.size + 1 + 1 + 1, 0, none⟩) 5 5] 25)) [.int .i64 1] 3 j u (by simpa using hu); simpa using h) (((zgz _ _).alloc (zgo _) _).alloc (by simp) _)
  have ha2 : ∀ j u, (([1, 0] : List Int).map (Value.int .i64))[j]? = some u → W.cell? ⟨w.heap.size + 1 + 1, j, none⟩ = some u := fun j u hu => by rw [← hW]; exact za (by have h := zx ((w.alloc (.cells #[.slice (some ⟨w.heap.size + 1 + 1 + 1, 0, none⟩) 5 5] 25)).alloc (.cells #[.int .i64 1] 3)) [.int .i64 1, .int .i64 0] 3 j u (by simpa using hu); simpa using h) ((zgz _ _).alloc (zgo _) _)
  clear hW; have hv := ((sym0 W ⟨#[97]⟩ 0 (by decide) (by omega)).app ((sym1 W ⟨#[117]⟩ [1] 0 (w.heap.size + 1) (by decide) (by omega) (by simp) (by simp) (by intro x hx; simp at hx; unfold I64; omega) (by omega) ha1).app ((sym1 W ⟨#[118]⟩ [1, 0] 1 (w.heap.size + 1 + 1) (by decide) (by omega) (by simp) (by simp) (by intro x hx; simp at hx; unfold I64; omega) (by omega) ha2).app ((sym0 W ⟨#[120]⟩ 1 (by decide) (by omega)).app ((sym0 W ⟨#[121]⟩ 1 (by decide) (by omega)).app (by simp only [RdVs]; exact ⟨trivial, trivial⟩ : RdVs W [] [] [])))))); refine bodyPost_ret (v := .agg #[.slice (some ⟨w.heap.size + 1 + 1 + 1, 0, none⟩) 5 5]) (by simp [results, Tryz.results135, go_sem, hr]) rfl ⟨⟨⟨[⟨⟨#[97]⟩, [], 0⟩, ⟨⟨#[117]⟩, [1], 0⟩, ⟨⟨#[118]⟩, [1, 0], 1⟩, ⟨⟨#[120]⟩, [], 1⟩, ⟨⟨#[121]⟩, [], 1⟩]⟩, [.slice (some ⟨w.heap.size + 1 + 1 + 1, 0, none⟩) 5 5], (w.heap.size + 1 + 1 + 1) :: [w.heap.size + 1, w.heap.size + 1 + 1], ⟨⟨by simp, by simp⟩, by unfold Sg.nice; decide⟩, rfl, Sg.close (x := ⟨[⟨⟨#[97]⟩, [], 0⟩, ⟨⟨#[117]⟩, [1], 0⟩, ⟨⟨#[118]⟩, [1, 0], 1⟩, ⟨⟨#[120]⟩, [], 1⟩, ⟨⟨#[121]⟩, [], 1⟩]⟩) (zbR (k := 3) hs (by exact hv) (by simp) (by simp) (by simp) (by omega) (by omega)), by intro b hb; simp at hb; omega⟩, hB⟩
theorem zds (rb p : Nat) (w : World) (hp : p ≤ 1000000000) (h : Rdr w rb p) :
  Calls Tryz.prog 97 #[.pointer (some ⟨rb, 0, none⟩)] w fun e w' => (∃ (s : Sg) (vs : List Value) (f : List Nat), (s.few ∧ s.nice) ∧ e = .returned (.agg vs.toArray) ∧ RdVs w' s.cd vs f ∧ ∀ b ∈ f, w.heap.size ≤ b) ∧ Rdr w' rb (p + 1) ∧ Only [rb] w w' := by
 have hlt := h.lt; go_enter Tryz.func97, Tryz.ntmps97; go_wp2_with fail; generalize hW : (w.alloc (.cells #[.slice none 0 0] 25)).alloc (.cells #[.int .i64 0, .int .i64 0, .int .i64 1, .int .i64 1, .int .i64 2, .int .i64 3, .int .i64 1, .int .i64 4] 3) = W
 have hz : W.heap.size = w.heap.size + 1 + 1 := by rw [← hW]; simp
 have hB : Below w.heap.size w W := by rw [← hW]; exact ((zgz _ _).alloc (zgo _) _).alloc (by simp) _
 have hr : W.cell? ⟨w.heap.size, 0, none⟩ = some (.slice none 0 0) := by rw [← hW]; exact za (zt _ _ _ 0) ((zgz _ _).alloc (zgo _) _)
 have hrf : W.frozen? ⟨w.heap.size, 0, none⟩ = false := by rw [← hW]; exact (zk ((zb _ _).block w.heap.size (by simp))).trans (zR _ _ _ 0)
 have hs : ∀ j u, (([0, 0, 1, 1, 2, 3, 1, 4] : List Int).map (Value.int .i64))[j]? = some u → W.cell? ⟨w.heap.size + 1, j, none⟩ = some u := fun j u hu => by rw [← hW]; have h := zx (w.alloc (.cells #[.slice none 0 0] 25)) [.int .i64 0, .int .i64 0, .int .i64 1, .int .i64 1, .int .i64 2, .int .i64 3, .int .i64 1, .int .i64 4] 3 j u (by simpa using hu); simpa using h
 clear hW; refine (num_any [0, 0, 1, 1, 2, 3, 1, 4] rb p (w.heap.size + 1) _ hp (by simp) (by simp) (by omega) (by omega) (fun i hi => hs i _ (by rw [List.getElem?_map, zgp hi]; rfl)) (h.below hB)).mono ?_; rintro e w1 ⟨⟨x, -, rfl⟩, hr1, ho1⟩; have c1 := ho1.keep hr (by omega) (by omega); have f1 := ho1.free hrf (by omega) (by omega); have hz1 := ho1.size; go_wp2_with fail; refine (zeT x _).mono ?_; rintro e w2 ⟨⟨s, vs, f, hfew, rfl, hrd, hf⟩, hb2⟩; obtain ⟨a0, c0, f0, rfl, rfl, m0⟩ := Sg.open hrd; have c2 := (hb2.cell (p := ⟨w.heap.size, 0, none⟩) (by show w.heap.size < _; omega)).trans c1; have f2 := (zk (hb2.block w.heap.size (by omega))).trans f1; have hz2 := hb2.size; have z0 := zgu w2 ⟨w.heap.size, 0, none⟩ (.slice a0 s.Y.length c0) c2; go_wp2_with fail; refine bodyPost_ret (v := .agg #[.slice a0 s.Y.length c0]) (by simp [results, Tryz.results97, go_sem, z0]) rfl ⟨⟨s, [.slice a0 s.Y.length c0], f, hfew, rfl, hrd.same _ (zD (a := ⟨w.heap.size, 0, none⟩) (fun b hb => by have := hf b hb; show b ≠ w.heap.size; omega)), fun b hb => by have := hf b hb; omega⟩, (hr1.below hb2).set (by omega), (((Only.below hB).trans ho1).trans (Only.below hb2)).set_new (zgo _)⟩
theorem zaB (n : Nat) : ∀ (s : Sg) (vs : List Value) (sf : List Nat) (so deep : Int) (rb p : Nat) (w : World), 1 ≤ deep → deep ≤ n → n ≤ 4 → p + pcap n ≤ 1000000000 → s.few → s.nice → RdVs w s.cd vs sf → rb ∉ sf → Rdr w rb p →
  Calls Tryz.prog 110 #[.pointer (some ⟨rb, 0, none⟩), .agg vs.toArray, .int .i64 so, .int .i64 deep] w fun e w' => DrawnNice w (pcap n) n e w' ∧ Rdr w' rb (p + pcap n) ∧ Only [rb] w w' := by
 induction n with
 | zero => intro s vs sf so deep rb p w h1 h2; omega
 | succ n ih =>
  rintro s vs sf so deep rb p w h1 h2 h3 hp hfew hni hrd hnr hr; obtain ⟨a0, c0, f0, rfl, rfl, m0⟩ := Sg.open hrd; have IH := zgn ih; clear ih; have hpc : pcap (n + 1) = 1 + 2 * pcap n := rfl; have hlt := hr.lt; have hsl : s.Y.length ≤ 5 := hfew.1; have hfl := m0.lt _; go_enter Tryz.func110, Tryz.ntmps110; go_wp2_with fail
  go_loopw [9, 10] (fun ov i wr => ∃ (k : Nat) (fp : List Nat), k ≤ s.Y.length ∧ i = .int .i64 k ∧ Own wr (w.heap.size + 1 + 1) 109 3 ov ((s.words so deep k).map Sy.cd) fp ∧ Hid (∀ b ∈ fp, b ∈ sf) ∧ Below (w.heap.size + 1 + 1) ((w.alloc (.cells #[.slice a0 s.Y.length c0] 25)).alloc (.cells #[.string ⟨#[]⟩, .slice none 0 0] 28)) wr) (fun _ i _ => s.Y.length - (intOf i).toNat)
  case atStart => exact ⟨0, [], zgx _, rfl, (by have h := Own.empty ((w.alloc (.cells #[.slice a0 s.Y.length c0] 25)).alloc (.cells #[.string ⟨#[]⟩, .slice none 0 0] 28)) (w.heap.size + 1 + 1) 109 3 (by simp); simp only [zgs] at h; exact h), zgn (fun b hb => by simp at hb), (zgz _ _).alloc (by simp) _⟩
  case round =>
   obtain ⟨k, fp, hkl, rfl, hown, hsub, hb'⟩ := hrel; have hzz := hb'.size; simp only [zgs] at hzz; obtain ⟨hx, hy, _, hb⟩ := box2 hb'; have x0 : wr.cell? ⟨w.heap.size, 0, none⟩ = some (.slice a0 s.Y.length c0) := hx 0; have r0 : wr.cell? ⟨w.heap.size + 1, 0, none⟩ = some (.string ⟨#[]⟩) := hy 0; have r1 : wr.cell? ⟨w.heap.size + 1, 1, none⟩ = some (.slice none 0 0) := hy 1; have rf0 := (zJ hb' 0).2; have rf1 := (zJ hb' 1).2; clear hx hy; have hz := hb.size; have m0w := m0.below hb
   by_cases hlt : k < s.Y.length
   ·obtain ⟨b, off, rfl, hbs, _⟩ := zl m0w (by omega)
    obtain ⟨a1, c1, f1, d0, d1, d2, n0, n1, n2, hsub1⟩ := Sy.at m0w hlt
    have hl : ((s.words so deep k).map Sy.cd).length ≤ 5 := by rw [zgl]; have := s.words_len so deep k; omega
    cases hc : ((s.Y[k].sort == so) && (decide (1 < deep) || ((s.Y[k].args.length : Int) == 0)))
    ·have HW := zgn (Sg.words_no hlt hc)
     cases e1 : (s.Y[k].sort == so) <;> cases e2 : decide (1 < deep) <;> cases e3 : ((s.Y[k].args.length : Int) == 0) <;> first | (exfalso; rw [e1, e2, e3] at hc; exact absurd hc (by decide)) | skip
     all_goals
      clear hc; go_wp2_with fail; go_roundw
      case rel => exact ⟨k + 1, fp, by omega, by go_num, by rw [HW.out]; exact hown, hsub, hb'⟩
      case measure => simp [intOf]; omega
    ·have HW := zgn (Sg.words_yes hlt hc)
     have hBA : Below wr.heap.size wr (wr.alloc (.cells #[.string s.Y[k].name, .slice a1 s.Y[k].args.length c1, .int .i64 s.Y[k].sort] 109)) := zb _ _; have hnews := (Sy.close (x := s.Y[k]) n0 n1 n2)
     cases e1 : (s.Y[k].sort == so) <;> cases e2 : decide (1 < deep) <;> cases e3 : ((s.Y[k].args.length : Int) == 0) <;> first | (exfalso; rw [e1, e2, e3] at hc; exact absurd hc (by decide)) | skip
     all_goals
      clear hc; go_wp2_with (at_builtin; refine zz zbm rfl _ _ rfl (w.heap.size + 1 + 1) _ _ _ rfl (hown.below hBA) ⟨wr.heap.size, 0, none⟩ 1 1 [s.Y[k].cd] [.string s.Y[k].name, .slice a1 s.Y[k].args.length c1, .int .i64 s.Y[k].sort] f1 rfl rfl (by simpa using hnews.below hBA) (by simp [Sy.cd_len]) (by exact zq wr _ _) (fun y hy e => by have h1 := (hown.block e).1; have h2 := hfl y (hsub1 y hy); omega) (by omega) (by omega) (by simp; omega) ?_); intro v' w4 hown4 hg hv' hs4; have hb4 := zo (hb'.trans (hBA.mono (by omega))) hg (by simp; omega) (fun q hq => (hown.block hq).1); go_wp2_with fail; go_roundw
      case rel => exact ⟨k + 1, fp ++ f1, by omega, by go_num, by rw [HW.out, zgj]; exact hown4, zgn (fun y hy => (zgg.1 hy).elim (hsub.out y) (hsub1 y)), hb4⟩
      case measure => simp [intOf]; omega
   ·have hke : k = s.Y.length := by omega
    obtain ⟨ws, hws⟩ : ∃ ws, ws = s.words so deep k := ⟨_, rfl⟩
    have hmem : ∀ y ∈ ws, y.args.length ≤ 2 ∧ (0 < y.args.length → 1 < deep) := fun y hy => by rw [hws] at hy; have h := Sg.words_mem hy; exact ⟨hfew.2 y h.1, h.2⟩
    have hwl : ws.length ≤ 5 := by rw [hws]; have := s.words_len so deep k; omega
    rw [← hws] at hown; have HM := zgn hmem; have HNI := zgn (fun y (hy : y ∈ ws) => hni.name (by rw [hws] at hy; exact (Sg.words_mem hy).1)); clear hws hmem hke; obtain ⟨oa, oc, he9, _, _⟩ := hown.form; rw [zgl] at he9; subst he9; obtain ⟨fw, hw, hwf⟩ := hown.rd
    have hnw : rb ∉ fw := fun hm => by
     rcases hwf with ⟨_, _, rfl⟩ | ⟨b, c, _, rfl, _, hbb, _⟩
     ·simp at hm
     ·rcases zgk.1 hm with h | h
      ·omega
      ·exact hnr (hsub.out _ h)
    clear hwf hown hsub
    by_cases hz0 : ws.length = 0
    ·obtain ⟨z0, z1⟩ := za3 (.string ⟨#[113]⟩) (.slice none 0 0) r0 r1
     go_wp2_with fail; refine bodyPost_ret (v := .agg #[.string ⟨#[113]⟩, .slice none 0 0]) (by simp [results, Tryz.results110, go_sem, z0, z1]) rfl ⟨⟨.mk ⟨#[113]⟩ [], .slice none 0 0, [], ?_, rfl, by decide, Own.nil _ _ _ _, Fresh.nil _ _⟩, ?_, ?_⟩
     ·exact ⟨by simp [Tm.size, Tm.sizes, hpc], shape_q n⟩
     ·exact (((hr.below hb).set (by omega)).set (by omega)).mono (by omega)
     ·exact ((Only.below hb).set_new (by omega)).set_new (by omega)
    ·obtain ⟨bw, offw, rfl, hbw, hbwf⟩ := zl hw (by omega)
     go_wp2_with fail; refine (zS rb p ws.length _ (by omega) (by omega) (by omega) (hr.below hb)).mono ?_; rintro e w1 ⟨⟨m, hm, rfl⟩, hr1, ho1⟩
     have hm' : m < ws.length := by omega
     have hw1 := hw.only ho1 hnw; obtain ⟨a1, c1, f1, d0, d1, d2, n0, n1, n2, hsub1⟩ := Sy.at hw1 hm'; have hnf1 : rb ∉ f1 := fun h => hnw (hsub1 _ h); obtain ⟨hxa, hxd⟩ := HM.out ws[m] (zgh hm'); obtain ⟨x, hx⟩ : ∃ x, x = ws[m] := ⟨_, rfl⟩; have hxn := HNI.out ws[m] (zgh hm'); rw [← hx] at d0 d1 d2 n0 n1 n2 hxa hxd hxn; have hz1 := ho1.size; have x01 := ho1.keep x0 (by omega) (by omega); have r01 := ho1.keep r0 (by omega) (by omega); have r11 := ho1.keep r1 (by omega) (by omega); have rf01 := ho1.free rf0 (by omega) (by omega); have rf11 := ho1.free rf1 (by omega) (by omega)
     have hbw1 : bw < w1.heap.size := by omega
     have hm1 := hrd.below hb; have hrdw := (hrd.below hb).only ho1 hnr; clear hw hw1 hm1 hx HM hbwf x0 r0 r1 rf0 rf1 hsub1 m0w; have hON : Only [rb] w w1 := (Only.below hb).trans ho1; clear hb hb' ho1 hz; go_wp2_with fail
     go_loopw [13] (fun i wq => ∃ (k : Nat) (fp : List Nat) (ov : Value) (kids : List Tm), k ≤ x.args.length ∧ i = .int .i64 k ∧ kids.length = k ∧ Tm.sizes kids ≤ k * pcap n ∧ Hid (Tm.shapes kids n = true) ∧ Own wq (w1.heap.size + 1 + 1) 28 2 ov (kids.map Tm.cd) fp ∧ Fresh (w1.heap.size + 1 + 1) wq fp ∧
      wq.cell? ⟨w1.heap.size + 1, 0, none⟩ = some (.string x.name) ∧ wq.cell? ⟨w1.heap.size + 1, 1, none⟩ = some ov ∧ wq.frozen? ⟨w1.heap.size + 1, 1, none⟩ = false ∧ w1.heap.size + 1 + 1 ≤ wq.heap.size ∧ Rdr wq rb (p + 1 + k * pcap n) ∧
      Only [rb] (w1.alloc (.cells #[.string x.name, .slice a1 x.args.length c1, .int .i64 x.sort] 109)) wq) (fun i _ => x.args.length - (intOf i).toNat)
     case atStart => exact ⟨0, [], .slice none 0 0, [], zgx _, rfl, rfl, by simp [Tm.sizes], zgn (by simp [Tm.shapes]), Own.nil _ _ _ _, Fresh.nil _ _, by simp [go_sem], by simp [go_sem], by simp [go_sem], by simp, by simpa using (hr1.alloc _).alloc _, (Only.refl _ _).alloc _⟩
     case round =>
      obtain ⟨k, fp, ov, kids, hkl, rfl, hkn, hks, hsh, hown, hfr, y0, y1, fz1, hzq, hrq, hoq⟩ := hrel; have hkc : k * pcap n ≤ 2 * pcap n := Nat.mul_le_mul_right _ (by omega); have hBA := zb w1 (.cells #[.string x.name, .slice a1 x.args.length c1, .int .i64 x.sort] 109); have xq : wr.cell? ⟨w.heap.size, 0, none⟩ = some (.slice a0 s.Y.length c0) := hoq.keep (za x01 hBA) (by simp; omega) (by omega); have g1 : wr.cell? ⟨w1.heap.size, 1, none⟩ = some (.slice a1 x.args.length c1) := hoq.keep (zx w1 _ _ 1 _ rfl) (by simp) (by omega); have hrdq : RdVs wr s.cd [.slice a0 s.Y.length c0] sf := (hrdw.below hBA).only hoq hnr; have n1q := (n1.below hBA).only hoq hnf1
      by_cases hlt : k < x.args.length
      ·obtain ⟨ba, offa, rfl, hba, _⟩ := zl n1q (by omega)
       obtain ⟨ga, _⟩ := zan n1q hlt; have hkc2 : (k + 1) * pcap n ≤ 2 * pcap n := Nat.mul_le_mul_right _ (by omega)
       have hkm : (k + 1) * pcap n = k * pcap n + pcap n := by rw [Nat.add_mul, Nat.one_mul]
       have hnfp := hfr.notin (rb := rb) (by omega); have hd1 : 1 < deep := hxd (by omega)
       have hwd : IntKind.i64.wrap (deep - 1) = deep - 1 := by rw [IntKind.wrap_i64]; omega
       go_wp2_with fail; have tok1 : True := trivial
       go_region_law (first
        | (have _t := @hown2; refine zO zaU rfl _ _ rfl (w1.heap.size + 1 + 1) _ _ fp rfl (by exact hown2) ⟨w2.heap.size, 0, none⟩ 1 1 [t3.cd] [.string t3.name, .slice a3 t3.K.length cap3] fp3 rfl rfl (by simpa using Tm.rdvs hnm3 hr3') (by simp [Tm.cd_len]) (by exact zq _ _ _) (by exact hown.away hoz2 hf3) (by rw [zgl]; omega) (by rw [zgl]; omega) (by simp; omega) ?_; intro v' w4 hown4 hg hv' hs4; obtain ⟨a4, n4, c4, rfl⟩ := hown4.form'; have hcb := zaA hon2 hg (b := w1.heap.size + 1) (by omega) (by omega) (hown.row_ne (by omega)); have y0' := ze hcb y0; have y1' := ze hcb y1; have f1' := zp hcb fz1; clear hcb)
        | (have _t := tok1; clear _t tok1; go_simp; go_at_call 110; refine (IH.out s _ sf _ _ rb (p + 1 + k * pcap n) _ (by omega) (by omega) (by omega) (by omega) hfew hni (by exact hrdq.below (zj _)) hnr (by exact hrq)).mono ?_; rintro e w2 ⟨⟨t3, kv3, fo3, ⟨hsz3, hsh3⟩, rfl, hnm3, hro3, hfo3⟩, hr2, hon2⟩; have hon2 := Only.undrew hon2; obtain ⟨fp3, hr3, hf3, _⟩ := hro3.fresh hfo3; obtain ⟨a3, cap3, rfl, hg1, hg2⟩ := zaJ hr3; have hz2 := hon2.size; have hoz2 : wr.heap.size ≤ wr.drew.heap.size := zgo _; have hlz : w1.heap.size + 1 < w2.heap.size := (by omega); have y0w := hon2.keep y0 (by omega) (by omega); have y1w := hon2.keep y1 (by omega) (by omega); have f1w := hon2.free fz1 (by omega) (by omega); have hown2 := (hown.only hon2 (by omega) hnfp).below (zb w2 (.cells #[.string t3.name, .slice a3 t3.K.length cap3] 28)); have hr3' := hr3.below (zb w2 (.cells #[.string t3.name, .slice a3 t3.K.length cap3] 28))))
       all_goals
        have hfr4 := ((Fresh.app (hfr.only hon2 (by omega)) hfr.lt hzq hf3).below (zb w2 (.cells #[.string t3.name, .slice a3 t3.K.length cap3] 28))).same hs4; have hsz4 := hg.size; simp only [zgs] at hsz4; have hown5 := hown4.set_other hfr4 (b := w1.heap.size + 1) (j := 1) (u := .slice a4 n4 c4) (by omega); have hfr5 := hfr4.same (zD (a := ⟨w1.heap.size + 1, 1, none⟩) (v := .slice a4 n4 c4) (hfr4.ne (by simp))); have y0'' := (zgt w4 ⟨w1.heap.size + 1, 1, none⟩ ⟨w1.heap.size + 1, 0, none⟩ (.slice a4 n4 c4) (by simp)).trans y0'; have y1'' := zgu w4 ⟨w1.heap.size + 1, 1, none⟩ (.slice a4 n4 c4) y1'; have hrow : ∀ q, Value.ownBlock ov = some q → w1.heap.size + 1 + 1 ≤ q := fun q hq => (hown.block hq).1; have hr5 := (((hr2.alloc (.cells #[.string t3.name, .slice a3 t3.K.length cap3] 28)).grown hg (fun q hq => by have := hrow q hq; omega)).set (b := w1.heap.size + 1) (i := 1) (u := .slice a4 n4 c4) (by omega)); have ho5 := (((hoq.trans hon2).alloc (.cells #[.string t3.name, .slice a3 t3.K.length cap3] 28)).grown hg (fun q hq => by have := hrow q hq; simp; omega)).set_new (b := w1.heap.size + 1) (i := 1) (u := .slice a4 n4 c4) (by simp); go_wp2_with fail; go_roundw
        case rel => exact ⟨k + 1, fp ++ fp3, .slice a4 n4 c4, kids ++ [t3], by omega, by go_num, by simp [hkn], by rw [Tm.sizes_append]; simp only [Tm.sizes]; omega, zgn (zeS hsh.out hsh3), by rw [zgj]; simpa using hown5, hfr5, y0'', y1'', by simp [go_sem, f1'], by simp [World.setCell]; omega, by rw [hkm, ← Nat.add_assoc]; exact hr5, ho5⟩
        case measure => simp [intOf]; omega
      ·obtain ⟨oa, on, oc, rfl⟩ := hown.form'
       have q0 := hoq.keep (za r01 hBA) (by simp; omega) (by omega); have q1 := hoq.keep (za r11 hBA) (by simp; omega) (by omega); have qf0 := hoq.free ((zk (hBA.block (w.heap.size + 1) (by omega))).trans rf01) (by simp; omega) (by omega); have qf1 := hoq.free ((zk (hBA.block (w.heap.size + 1) (by omega))).trans rf11) (by simp; omega) (by omega); obtain ⟨z0, z1⟩ := za3 (.string x.name) (.slice oa on oc) q0 q1; have hon0 : (w.heap.size + 1) ∉ fp := hfr.notin (by omega); go_wp2_with fail; refine bodyPost_ret (v := .agg #[.string x.name, .slice oa on oc]) (by simp [results, Tryz.results110, go_sem, z0, z1]) rfl ⟨⟨.mk x.name kids, _, fp, ?_, rfl, n0, ?_, ?_⟩, ?_, ?_⟩
       ·exact ⟨by simp only [Tm.size]; omega, shape_mk hxn (by omega) hsh.out⟩
       ·exact ((hown.set_row (by omega) hon0).set_row (by omega) hon0).base (fun q hq => by have := (hown.block hq).1; omega)
       ·exact (hfr.same (zP (hfr.ne (by omega)))).mono (by omega)
       ·exact (((hrq.set (by omega)).set (by omega)).mono (by omega))
       ·exact (((hON.trans (Only.below hBA)).trans hoq).set_new (by omega)).set_new (by omega)
mutual
/-- Right names are short. -/
theorem zcR : ∀ (t : Tm) (d : Int), Tm.shape t d = true → wtV t.cd + 1 ≤ 3 * t.size
 | .mk n ks, d, h => by
  rw [Tm.shape_eq] at h; simp only [Tm.name, Tm.K, zgm, decide_eq_true_eq] at h; have hk := zfc ks (d - 1) (by first | exact h.2 | exact h.2.2 | exact h.2.2.2)
  have hn : n.size ≤ 2 := by
   have h1 : zat n = true := by first | exact h.1.1.2 | exact h.1.2.1 | exact h.2.1 | exact h.1.2 | exact h.1.1
   simp only [zat, zgm, decide_eq_true_eq] at h1; omega
  rw [Tm.wtV_eq, Tm.size_eq]; simp only [Tm.name, Tm.K]; omega
theorem zfc : ∀ (ts : List Tm) (d : Int), Tm.shapes ts d = true → ts.length + wtR (ts.map Tm.cd) ≤ 3 * Tm.sizes ts
 | [], _, _ => by simp [wtR, Tm.sizes]
 | t :: ts, d, h => by
  simp only [Tm.shapes, zgm] at h; have h1 := zcR t d h.1; have h2 := zfc ts d h.2; simp only [List.map_cons, zX, zgw, Tm.sizes]; omega
end
theorem wt_name (t : Tm) (nm : ByteArray) : wtV (Tm.mk nm t.K).cd ≤ wtV t.cd + nm.size := by
 rw [Tm.wtV_eq, Tm.wtV_eq t]
 show nm.size + (t.K.length + wtR (t.K.map Tm.cd)) ≤ _
 omega
theorem wt_more (t : Tm) (ns : List Tm) : wtV (Tm.mk t.name (t.K ++ ns)).cd = wtV t.cd + (ns.length + wtR (ns.map Tm.cd)) := by
 rw [Tm.wtV_eq, Tm.wtV_eq t]
 show t.name.size + ((t.K ++ ns).length + wtR ((t.K ++ ns).map Tm.cd)) = _
 rw [zgj, zW, zgi]; omega
/-- A drawn term, its weight. -/
def DrawnTw (w : World) (cap : Nat) (e : Ending) (w' : World) : Prop := ∃ (t : Tm) (kv : Value) (fp : List Nat), (t.size ≤ cap ∧ wtV t.cd ≤ 5 * cap) ∧ e = .returned (.agg #[.string t.name, kv]) ∧ t.name.size ≤ maxLen ∧ Own w' w.heap.size 28 2 kv (t.K.map Tm.cd) fp ∧ Fresh w.heap.size w' fp
theorem zbp {w w5 : World} {rb p q cap R base : Nat} {t : Tm} {kv u v : Value} {fp : List Nat} (hsz : t.size ≤ cap ∧ wtV t.cd ≤ 5 * cap) (hnm : t.name.size ≤ maxLen) (hown : Own w5 base 28 2 kv (t.K.map Tm.cd) fp) (hfr : Fresh base w5 fp)
  (hR : w.heap.size ≤ R) (hRb : R < base) (hr : Rdr w5 rb q) (hRr : rb < R) (hN : Only [rb] w w5) (hq : q ≤ p) :
  DrawnTw w cap (.returned (.agg #[.string t.name, kv])) ((w5.setCell ⟨R, 0, none⟩ u).setCell ⟨R, 1, none⟩ v) ∧ Rdr ((w5.setCell ⟨R, 0, none⟩ u).setCell ⟨R, 1, none⟩ v) rb p ∧ Only [rb] w ((w5.setCell ⟨R, 0, none⟩ u).setCell ⟨R, 1, none⟩ v) := by
 have hn := hfr.notin hRb; refine ⟨⟨t, kv, fp, hsz, rfl, hnm, ?_, ?_⟩, ((hr.set hRr).set hRr).mono hq, (hN.set_new hR).set_new hR⟩
 ·exact ((hown.set_row hRb hn).set_row hRb hn).base (fun q hq => by have := (hown.block hq).1; omega)
 ·exact (hfr.same (zP (hfr.ne hRb))).mono (by omega)
/-- A variable of the call's own, that holds a drawn term. -/
def VarTw (rb B : Nat) (v : Value) (w : World) : Prop := ∃ (bt : Nat) (t : Tm) (ka : Option Addr) (kc base : Nat) (fo : List Nat), v = .pointer (some ⟨bt, 0, none⟩) ∧ (t.size ≤ 15 ∧ wtV t.cd ≤ 60) ∧ t.name.size ≤ maxLen ∧ B ≤ base ∧ base ≤ w.heap.size ∧
 Own w base 28 2 (.slice ka t.K.length kc) (t.K.map Tm.cd) fo ∧ Fresh base w fo ∧ B ≤ bt ∧ bt ∉ fo ∧ (Value.slice ka t.K.length kc).ownBlock ≠ some bt ∧ Lst rb [.string t.name, .slice ka t.K.length kc] bt w
theorem zfQ {w3 : World} {rb B base T : Nat} {t : Tm} {ka : Option Addr} {kc : Nat} {fo : List Nat} (hsz : (t.size ≤ 15 ∧ wtV t.cd ≤ 60)) (hnm : t.name.size ≤ maxLen) (hbase : B ≤ base) (hown : Own w3 base 28 2 (.slice ka t.K.length kc) (t.K.map Tm.cd) fo) (hfr : Fresh base w3 fo)
  (hB : B ≤ w3.heap.size) (hrb : rb < w3.heap.size) (hbs : base ≤ w3.heap.size) : VarTw rb B (.pointer (some ⟨w3.heap.size, 0, none⟩)) (w3.alloc (.cells #[.string t.name, .slice ka t.K.length kc] T)) := by
 have hba := zb w3 (.cells #[.string t.name, .slice ka t.K.length kc] T); exact ⟨_, t, ka, kc, base, fo, rfl, hsz, hnm, hbase, zgy hbs hba.size, hown.below hba, hfr.below hba, hB, fun h => by have := hfr.lt _ h; omega, fun h => by have := (hown.block h).2; omega, Lst.new hrb _ _⟩
theorem zer {w3 : World} {rb B base bt : Nat} {t : Tm} {ka : Option Addr} {kc : Nat} {fo : List Nat} (hsz : (t.size ≤ 15 ∧ wtV t.cd ≤ 60)) (hnm : t.name.size ≤ maxLen) (hbase : B ≤ base) (hown : Own w3 base 28 2 (.slice ka t.K.length kc) (t.K.map Tm.cd) fo) (hfr : Fresh base w3 fo)
  (hB : B ≤ bt) (hbt : bt < base) (hv : Lst rb [.string ⟨#[]⟩, .slice none 0 0] bt w3) (hbs : base ≤ w3.heap.size) : VarTw rb B (.pointer (some ⟨bt, 0, none⟩)) ((w3.setCell ⟨bt, 0, none⟩ (.string t.name)).setCell ⟨bt, 1, none⟩ (.slice ka t.K.length kc)) := by
 have hn := hfr.notin hbt; obtain ⟨h1, h2, h3, h4⟩ := hv; obtain ⟨z0, z1⟩ := za3 (.string t.name) (.slice ka t.K.length kc) (h3 0 _ rfl) (h3 1 _ rfl); refine ⟨_, t, ka, kc, base, fo, rfl, hsz, hnm, hbase, by simpa [World.setCell] using hbs, (hown.set_row hbt hn).set_row hbt hn, hfr.same (zP (hfr.ne hbt)), hB, hn, fun h => by have := (hown.block h).1; omega, h1, by simpa [World.setCell] using h2, fun j u hu => ?_, fun j => ?_⟩
 ·match j, hu with
  | 0, hu => obtain rfl := zgA hu; exact z0
  | 1, hu => obtain rfl := zgA hu; exact z1
 ·simp [go_sem, h4]
theorem l4Some_wt (s : Sg) (vs : List Value) (sf : List Nat) (rb p : Nat) (w : World) (hp : p + 20 ≤ 1000000000) (hfew : s.few) (hnice : s.nice) (hrd : RdVs w s.cd vs sf) (hnr : rb ∉ sf) (hr : Rdr w rb p) :
  Calls Tryz.prog 109 #[.pointer (some ⟨rb, 0, none⟩), .agg vs.toArray] w fun e w' => DrawnTw w 45 e w' ∧ Rdr w' rb (p + 20) ∧ Only [rb] w w' := by
 obtain ⟨a0, c0, f0, rfl, rfl, m0⟩ := Sg.open hrd; have hlt := hr.lt; go_enter Tryz.func109, Tryz.ntmps109; go_wp2_with fail; generalize hW : (w.alloc (.cells #[.slice a0 s.Y.length c0] 25)).alloc (.cells #[.string ⟨#[]⟩, .slice none 0 0] 28) = W; have hB : Below (w.heap.size + 1 + 1) ((w.alloc (.cells #[.slice a0 s.Y.length c0] 25)).alloc (.cells #[.string ⟨#[]⟩, .slice none 0 0] 28)) W := hW ▸ zgz _ _; clear hW; obtain ⟨hx, hy, hz, hb⟩ := box2 hB; have x0 : W.cell? ⟨w.heap.size, 0, none⟩ = some (.slice a0 s.Y.length c0) := hx 0; have r0 : W.cell? ⟨w.heap.size + 1, 0, none⟩ = some (.string ⟨#[]⟩) := hy 0; have r1 : W.cell? ⟨w.heap.size + 1, 1, none⟩ = some (.slice none 0 0) := hy 1; have rf0 := (zJ hB 0).2; have rf1 := (zJ hB 1).2; clear hx hy hB; have hr0 := hr.below hb
 have hlW : rb < W.heap.size := by omega
 have hrd0 := hrd.below hb
 go_cut [5] from 9 to 16 (fun s5 wx => VarTw rb W.heap.size s5 wx ∧ Rdr wx rb (p + 17) ∧ Only [rb] W wx)
 case first =>
  have hN0 : Only [rb] W W.drew := Only.below (zj W)
  go_region_held3 (fun U => U.cell? ⟨w.heap.size, 0, none⟩ = some (.slice a0 s.Y.length c0))
   (((repeat (first | with_reducible assumption | with_reducible exact x0 | ((with_reducible refine hN0.cellk x0 ?_); (focus omega)) | ((with_reducible refine hN1.cellk x0 ?_); (focus omega)) | ((with_reducible refine hN2.cellk x0 ?_); (focus omega)) | ((with_reducible refine hN3.cellk x0 ?_); (focus omega)) | with_reducible refine zbS ?_ | with_reducible refine zam ?_ | ((with_reducible refine ho1.cellk ?_ ?_); rotate_left; (focus omega)) | ((with_reducible refine ho2.cellk ?_ ?_); rotate_left; (focus omega)) | ((with_reducible refine ho3.cellk ?_ ?_); rotate_left; (focus omega)) | ((with_reducible refine (zgt _ _ _ _ ?_).trans ?_); (focus (intro e; simp only [Addr.mk.injEq] at e; omega))))); done))
   (first
   | (go_at_call 72; (refine (zS rb p 2 _ (by omega) (by omega) (by omega) ?_).mono ?_); (first | exact hr0 | exact hr0.alloc _ | exact (hr0.alloc _).alloc _); rintro e w1 ⟨⟨m1, hm1, rfl⟩, hr1, ho1⟩; have hN1 : Only [rb] W w1 := (by first | exact hN0.trans ho1 | exact (hN0.alloc _).trans ho1 | exact ((hN0.alloc _).alloc _).trans ho1); have hl1 := hr1.lt; have hsz1 := hN1.size; try (first | (refine Lst.use (lb := W.heap.size) (vs := [.string ⟨#[]⟩, .slice none 0 0]) ho1 ?_ ?_; (focus ((repeat (first | assumption | with_reducible refine Lst.drew ?_ | ((with_reducible refine Lst.new ?_ _ _); first | exact hlW | omega | (simp; omega)) | ((with_reducible refine Lst.new1 ?_ _ _ _); first | exact hlW | omega | (simp; omega)) | with_reducible refine Lst.alloc ?_ _)); done)); intro hvl1 hv1) | (refine Lst.use (lb := (W.heap.size + 1)) (vs := [.string ⟨#[]⟩, .slice none 0 0]) ho1 ?_ ?_; (focus ((repeat (first | assumption | with_reducible refine Lst.drew ?_ | ((with_reducible refine Lst.new ?_ _ _); first | exact hlW | omega | (simp; omega)) | ((with_reducible refine Lst.new1 ?_ _ _ _); first | exact hlW | omega | (simp; omega)) | with_reducible refine Lst.alloc ?_ _)); done)); intro hvl1 hv1)))
   | (go_at_call 71; (refine (num_l [2, 3, 1, 4] [.int .i64 2, .int .i64 3, .int .i64 1, .int .i64 4] rfl rb (p + 1) _ _ (by omega) (by simp) (by simp) ?_ ?_).mono ?_); (focus ((repeat (first | assumption | with_reducible refine Lst.drew ?_ | ((with_reducible refine Lst.new ?_ _ _); first | exact hlW | exact hr1.lt | omega | (simp; omega)) | ((with_reducible refine Lst.new1 ?_ _ _ _); first | exact hlW | exact hr1.lt | omega | (simp; omega)) | with_reducible refine Lst.alloc ?_ _ | with_reducible refine Lst.only ?_ ho1)); done)); (first | exact hr1 | exact hr1.alloc _ | exact (hr1.alloc _).alloc _); rintro e w2 ⟨⟨d2, hd2, rfl⟩, hr2, ho2⟩; have hN2 : Only [rb] W w2 := (by first | exact hN1.trans ho2 | exact (hN1.alloc _).trans ho2 | exact ((hN1.alloc _).alloc _).trans ho2); have hl2 := hr2.lt; have hsz2 := hN2.size; have hd : 1 ≤ d2 ∧ d2 ≤ 4 := (by simp at hd2; omega); have hsf := hrd0.only hN2 hnr; try (first | (refine Lst.use (lb := W.heap.size) (vs := [.string ⟨#[]⟩, .slice none 0 0]) ho2 ?_ ?_; (focus ((repeat (first | assumption | with_reducible refine Lst.drew ?_ | ((with_reducible refine Lst.new ?_ _ _); first | exact hlW | exact hr1.lt | omega | (simp; omega)) | ((with_reducible refine Lst.new1 ?_ _ _ _); first | exact hlW | exact hr1.lt | omega | (simp; omega)) | with_reducible refine Lst.alloc ?_ _ | with_reducible refine Lst.only ?_ ho1)); done)); intro hvl2 hv2) | (refine Lst.use (lb := (W.heap.size + 1)) (vs := [.string ⟨#[]⟩, .slice none 0 0]) ho2 ?_ ?_; (focus ((repeat (first | assumption | with_reducible refine Lst.drew ?_ | ((with_reducible refine Lst.new ?_ _ _); first | exact hlW | exact hr1.lt | omega | (simp; omega)) | ((with_reducible refine Lst.new1 ?_ _ _ _); first | exact hlW | exact hr1.lt | omega | (simp; omega)) | with_reducible refine Lst.alloc ?_ _ | with_reducible refine Lst.only ?_ ho1)); done)); intro hvl2 hv2) | (refine Lst.use (lb := w1.heap.size) (vs := [.string ⟨#[]⟩, .slice none 0 0]) ho2 ?_ ?_; (focus ((repeat (first | assumption | with_reducible refine Lst.drew ?_ | ((with_reducible refine Lst.new ?_ _ _); first | exact hlW | exact hr1.lt | omega | (simp; omega)) | ((with_reducible refine Lst.new1 ?_ _ _ _); first | exact hlW | exact hr1.lt | omega | (simp; omega)) | with_reducible refine Lst.alloc ?_ _ | with_reducible refine Lst.only ?_ ho1)); done)); intro hvl2 hv2) | (refine Lst.use (lb := (w1.heap.size + 1)) (vs := [.string ⟨#[]⟩, .slice none 0 0]) ho2 ?_ ?_; (focus ((repeat (first | assumption | with_reducible refine Lst.drew ?_ | ((with_reducible refine Lst.new ?_ _ _); first | exact hlW | exact hr1.lt | omega | (simp; omega)) | ((with_reducible refine Lst.new1 ?_ _ _ _); first | exact hlW | exact hr1.lt | omega | (simp; omega)) | with_reducible refine Lst.alloc ?_ _ | with_reducible refine Lst.only ?_ ho1)); done)); intro hvl2 hv2)))
   | (go_at_call 110; (refine (zaB 4 s _ sf _ _ rb (p + 1 + 1) _ hd.1 (by omega) (by omega) (by simp only [pcap]; omega) hfew hnice (by first | exact hsf | exact hsf.below (zb _ _)) hnr ?_).mono ?_); (first | exact hr2 | exact hr2.alloc _ | exact (hr2.alloc _).alloc _); rintro e w3 ⟨⟨t, kv, fo, hsz, rfl, hnm, hown, hfo⟩, hr3, ho3⟩; have hN3 : Only [rb] W w3 := (by first | exact hN2.trans ho3 | exact (hN2.alloc _).trans ho3 | exact ((hN2.alloc _).alloc _).trans ho3); have hl3 := hr3.lt; have hsz3 := hN3.size; obtain ⟨ka, kc, hkv, hk1, hk2⟩ := hown.form; rw [zgl] at hkv hk1; subst hkv; try (first | (refine Lst.use (lb := W.heap.size) (vs := [.string ⟨#[]⟩, .slice none 0 0]) ho3 ?_ ?_; (focus ((repeat (first | assumption | with_reducible refine Lst.drew ?_ | ((with_reducible refine Lst.new ?_ _ _); first | exact hlW | exact hr1.lt | exact hr2.lt | omega | (simp; omega)) | ((with_reducible refine Lst.new1 ?_ _ _ _); first | exact hlW | exact hr1.lt | exact hr2.lt | omega | (simp; omega)) | with_reducible refine Lst.alloc ?_ _ | with_reducible refine Lst.only ?_ ho1 | with_reducible refine Lst.only ?_ ho2)); done)); intro hvl3 hv3; have vf0 := hv3.2.2.2 0; have vf1 := hv3.2.2.2 1; have vc0 := hv3.2.2.1 0 _ rfl; have vc1 := hv3.2.2.1 1 _ rfl) | (refine Lst.use (lb := (W.heap.size + 1)) (vs := [.string ⟨#[]⟩, .slice none 0 0]) ho3 ?_ ?_; (focus ((repeat (first | assumption | with_reducible refine Lst.drew ?_ | ((with_reducible refine Lst.new ?_ _ _); first | exact hlW | exact hr1.lt | exact hr2.lt | omega | (simp; omega)) | ((with_reducible refine Lst.new1 ?_ _ _ _); first | exact hlW | exact hr1.lt | exact hr2.lt | omega | (simp; omega)) | with_reducible refine Lst.alloc ?_ _ | with_reducible refine Lst.only ?_ ho1 | with_reducible refine Lst.only ?_ ho2)); done)); intro hvl3 hv3; have vf0 := hv3.2.2.2 0; have vf1 := hv3.2.2.2 1; have vc0 := hv3.2.2.1 0 _ rfl; have vc1 := hv3.2.2.1 1 _ rfl) | (refine Lst.use (lb := w1.heap.size) (vs := [.string ⟨#[]⟩, .slice none 0 0]) ho3 ?_ ?_; (focus ((repeat (first | assumption | with_reducible refine Lst.drew ?_ | ((with_reducible refine Lst.new ?_ _ _); first | exact hlW | exact hr1.lt | exact hr2.lt | omega | (simp; omega)) | ((with_reducible refine Lst.new1 ?_ _ _ _); first | exact hlW | exact hr1.lt | exact hr2.lt | omega | (simp; omega)) | with_reducible refine Lst.alloc ?_ _ | with_reducible refine Lst.only ?_ ho1 | with_reducible refine Lst.only ?_ ho2)); done)); intro hvl3 hv3; have vf0 := hv3.2.2.2 0; have vf1 := hv3.2.2.2 1; have vc0 := hv3.2.2.1 0 _ rfl; have vc1 := hv3.2.2.1 1 _ rfl) | (refine Lst.use (lb := (w1.heap.size + 1)) (vs := [.string ⟨#[]⟩, .slice none 0 0]) ho3 ?_ ?_; (focus ((repeat (first | assumption | with_reducible refine Lst.drew ?_ | ((with_reducible refine Lst.new ?_ _ _); first | exact hlW | exact hr1.lt | exact hr2.lt | omega | (simp; omega)) | ((with_reducible refine Lst.new1 ?_ _ _ _); first | exact hlW | exact hr1.lt | exact hr2.lt | omega | (simp; omega)) | with_reducible refine Lst.alloc ?_ _ | with_reducible refine Lst.only ?_ ho1 | with_reducible refine Lst.only ?_ ho2)); done)); intro hvl3 hv3; have vf0 := hv3.2.2.2 0; have vf1 := hv3.2.2.2 1; have vc0 := hv3.2.2.1 0 _ rfl; have vc1 := hv3.2.2.1 1 _ rfl) | (refine Lst.use (lb := w2.heap.size) (vs := [.string ⟨#[]⟩, .slice none 0 0]) ho3 ?_ ?_; (focus ((repeat (first | assumption | with_reducible refine Lst.drew ?_ | ((with_reducible refine Lst.new ?_ _ _); first | exact hlW | exact hr1.lt | exact hr2.lt | omega | (simp; omega)) | ((with_reducible refine Lst.new1 ?_ _ _ _); first | exact hlW | exact hr1.lt | exact hr2.lt | omega | (simp; omega)) | with_reducible refine Lst.alloc ?_ _ | with_reducible refine Lst.only ?_ ho1 | with_reducible refine Lst.only ?_ ho2)); done)); intro hvl3 hv3; have vf0 := hv3.2.2.2 0; have vf1 := hv3.2.2.2 1; have vc0 := hv3.2.2.1 0 _ rfl; have vc1 := hv3.2.2.1 1 _ rfl) | (refine Lst.use (lb := (w2.heap.size + 1)) (vs := [.string ⟨#[]⟩, .slice none 0 0]) ho3 ?_ ?_; (focus ((repeat (first | assumption | with_reducible refine Lst.drew ?_ | ((with_reducible refine Lst.new ?_ _ _); first | exact hlW | exact hr1.lt | exact hr2.lt | omega | (simp; omega)) | ((with_reducible refine Lst.new1 ?_ _ _ _); first | exact hlW | exact hr1.lt | exact hr2.lt | omega | (simp; omega)) | with_reducible refine Lst.alloc ?_ _ | with_reducible refine Lst.only ?_ ho1 | with_reducible refine Lst.only ?_ ho2)); done)); intro hvl3 hv3; have vf0 := hv3.2.2.2 0; have vf1 := hv3.2.2.2 1; have vc0 := hv3.2.2.1 0 _ rfl; have vc1 := hv3.2.2.1 1 _ rfl))))
  all_goals
   have hr3' : Rdr w3 rb (p + 17) := hr3; have hsz' : (t.size ≤ 15 ∧ wtV t.cd ≤ 60) := ⟨hsz.1, by have := zcR t _ hsz.2; have h15 : t.size ≤ 15 := hsz.1; omega⟩; go_wp2_with fail
   go_meet
   case rel =>
    first
     | exact ⟨zfQ hsz' hnm (by omega) hown hfo (by omega) (by omega) ho3.size, hr3'.alloc _, hN3.alloc _⟩
     | exact ⟨zer hsz' hnm (by rw [zgs]; omega) hown hfo (by omega) hvl3 hv3 ho3.size, (hr3'.set (by omega)).set (by omega), (hN3.set_new (by omega)).set_new (by omega)⟩
     | exact ⟨zer hsz' hnm (by omega) hown hfo (by omega) hvl3 hv3 ho3.size, (hr3'.set (by omega)).set (by omega), (hN3.set_new (by omega)).set_new (by omega)⟩
 case rest =>
 obtain ⟨⟨bt, t, ka, kc, base, fo, rfl, hsz, hnm, hbase, hbsz, hown, hfo, hbt, hnfo, hnow, hlst⟩, hr1, hN⟩ := hcut; have hNw : Only [rb] w wc := (Only.below hb).trans hN; have hzN := hN.size
 have hdec : Tm.sizes t.K + 1 = t.size := by rw [Tm.size_eq]; omega
 have q0 := hN.cellk r0 (by omega); have q1 := hN.cellk r1 (by omega); have qf0 := hN.free rf0 (by omega) (by omega); have qf1 := hN.free rf1 (by omega) (by omega); clear x0 r0 r1 rf0 rf1 hrd0 hr0 hb hrd m0 hN; go_wp2_with fail; refine (zS rb (p + 17) 48 _ (by omega) (by omega) (by omega) hr1).mono ?_; rintro e w5 ⟨⟨m, hm, rfl⟩, hr5, ho5⟩; have hz5 := ho5.size; replace q0 := ho5.cellk q0 (by omega); replace q1 := ho5.cellk q1 (by omega); replace qf0 := ho5.free qf0 (by omega) (by omega); replace qf1 := ho5.free qf1 (by omega) (by omega); replace hown := hown.only ho5 (by omega) (hfo.notin (by omega)); replace hfo := hfo.only ho5 (by omega); replace hlst := hlst.only ho5; replace hNw := hNw.trans ho5; have t0 := hlst.2.2.1 0 _ rfl; have t1 := hlst.2.2.1 1 _ rfl; have tf0 := hlst.2.2.2 0; have tf1 := hlst.2.2.2 1; have hlb := hlst.2.1; clear hlst ho5 hr1
 by_cases hm0 : m = 0
 ·subst hm0
  go_wp2_with fail; refine (of_l [⟨#[]⟩, ⟨#[65]⟩, ⟨#[97, 98, 99]⟩, ⟨#[102]⟩] [.string ⟨#[]⟩, .string ⟨#[65]⟩, .string ⟨#[97, 98, 99]⟩, .string ⟨#[102]⟩] rfl rb (p + 17 + 1) _ _ (by omega) (by simp) (by simp) (Lst.new (by omega) _ _) (hr5.alloc _)).mono ?_; rintro e w6 ⟨⟨nm, hmem, rfl⟩, hr6, ho6⟩
  have hnm3 : nm.size ≤ 3 := by (simp at hmem; rcases hmem with rfl | rfl | rfl | rfl <;> decide)
  have hnm6 : nm.size ≤ maxLen := by simp at hmem; rcases hmem with rfl | rfl | rfl | rfl <;> decide
  clear hmem; have hN6 := (Only.below (zb w5 (.cells #[.string ⟨#[]⟩, .string ⟨#[65]⟩, .string ⟨#[97, 98, 99]⟩, .string ⟨#[102]⟩] 9))).trans ho6; have hz6 := hN6.size; clear ho6; replace q0 := hN6.cellk q0 (by omega); replace q1 := hN6.cellk q1 (by omega); replace qf0 := hN6.free qf0 (by omega) (by omega); replace qf1 := hN6.free qf1 (by omega) (by omega); replace t0 := hN6.cellk t0 (by omega); replace t1 := hN6.cellk t1 (by omega); replace tf0 := hN6.free tf0 (by omega) (by omega); replace tf1 := hN6.free tf1 (by omega) (by omega); replace hown := (hown.only hN6 (by omega) (hfo.notin (by omega))).set_ne (b := bt) (j := 0) (u := .string nm) hnfo hnow; replace hfo := (hfo.only hN6 (by omega)).set_ne (b := bt) (j := 0) (u := .string nm) hnfo; replace hNw := hNw.trans hN6; clear hN6; have u0 := zgu w6 ⟨bt, 0, none⟩ (.string nm) t0; have u1 := (zgt w6 ⟨bt, 0, none⟩ ⟨bt, 1, none⟩ (.string nm) (by simp)).trans t1; have p0 := (zgt w6 ⟨bt, 0, none⟩ ⟨w.heap.size + 1, 0, none⟩ (.string nm) (by intro e; simp only [Addr.mk.injEq] at e; omega)).trans q0; have p1 := (zgt w6 ⟨bt, 0, none⟩ ⟨w.heap.size + 1, 1, none⟩ (.string nm) (by intro e; simp only [Addr.mk.injEq] at e; omega)).trans q1; obtain ⟨z0, z1⟩ := za3 (.string nm) (.slice ka t.K.length kc) p0 p1; go_wp2_with fail; exact bodyPost_ret (v := .agg #[.string nm, .slice ka t.K.length kc]) (by simp [results, Tryz.results109, go_sem, z0, z1]) rfl (zbp (t := .mk nm t.K) ⟨by simp only [Tm.size]; omega, by have h1 := wt_name t nm; omega⟩ hnm6 hown hfo (by omega) (by omega) (hr6.set (by omega)) (by omega) (hNw.set_new (by omega)) (by omega))
 have hfm := hfo.lt
 have hkl : ((t.K.map Tm.cd)).length ≤ 100 := by rw [zgl]; have := Tm.sizes_len t.K; omega
 obtain ⟨ff, hrd, hfree, _⟩ := hown.fresh hfo; clear tf0
 by_cases hm1 : m = 1
 ·subst hm1
  clear hm0; go_wp2_with fail; refine (zF t.size t _ _ (zgo _) (by omega) (TmR.mk hnm ⟨ff, hrd⟩)).mono ?_; rintro e w6 ⟨kv6, fp6, rfl, hr6', hf6, hb6⟩; obtain ⟨a6, c6, rfl, hg1, hg2⟩ := zaJ hr6'; have hz6 := hb6.size; have t06 := za t0 hb6; have t16 := za t1 hb6; have hba : Below w6.heap.size w6 ((w6.alloc (.cells #[.string t.name, .slice a6 t.K.length c6] 28)).alloc (.cells #[.string t.name, .slice a6 t.K.length c6] 28)) := ((zgz _ _).alloc (zgo _) _).alloc (by simp) _; have HB := hb6.trans (hba.mono hz6); have hownU := hown.below HB; have hfoU := hfo.below HB; have hrn := hr6'.below hba; have hfnU := hf6.below hba
  have hsU : ((w6.alloc (.cells #[.string t.name, .slice a6 t.K.length c6] 28)).alloc (.cells #[.string t.name, .slice a6 t.K.length c6] 28)).heap.size = w6.heap.size + 1 + 1 := by simp
  replace q0 := za q0 HB; replace q1 := za q1 HB; replace qf0 := (zk (HB.block (w.heap.size + 1) (by omega))).trans qf0; replace qf1 := (zk (HB.block (w.heap.size + 1) (by omega))).trans qf1; replace t0 := za t0 HB; replace t1 := za t1 HB; replace tf1 := (zk (HB.block bt (by omega))).trans tf1; replace hr5 := hr5.below HB; replace hNw := hNw.trans (Only.below HB)
  have hbt6 : bt < w6.heap.size := by omega
  go_wp2_with (at_builtin; refine zz zaU rfl _ _ rfl base _ _ _ rfl hownU ⟨w6.heap.size + 1, 0, none⟩ 1 1 [t.cd] [.string t.name, .slice a6 t.K.length c6] fp6 rfl rfl ?rd ?k ?cells ?na ?bytes ?len ?base ?next)
  case rd => simpa using Tm.rdvs hnm hrn
  case k => simp [Tm.cd_len]
  case cells => have h := zq (w6.alloc (.cells #[.string t.name, .slice a6 t.K.length c6] 28)) [.string t.name, .slice a6 t.K.length c6] 28; rw [zgs] at h; exact h
  case na => exact hown.away (zgo _) hfnU
  case bytes => omega
  case len => omega
  case base => omega
  case next =>
   intro v8 w8 hown8 hg hv8 hs8; obtain ⟨a8, c8, hv8e, hk8, hm8⟩ := hown8.form; obtain ⟨⟨c1, cf1, f0, f1, d0, d1, c0⟩, k1, k2, k3, k4, k5, k6, k7, k8⟩ := zeq (R := w.heap.size + 1) (bt := bt) (mid := w5.heap.size) hg (by rw [hsU]; exact hv8) hs8 hownU hown8 hfoU hfm (by omega) hfnU (by omega) hnfo hnow (by rw [hsU]; omega) hr5 (by omega) (by omega) hNw (by omega) (by omega) (by omega) (by rw [hsU]; omega) (by omega) t0 t1 tf1 q0 q1 qf0 qf1
   have hl8 : (t.K.map Tm.cd ++ [t.cd]).length = t.K.length + 1 := by simp
   rw [hl8] at hv8e; subst hv8e; clear hg hv8 hs8 hown8 t0 t1 tf1 q0 q1 qf0 qf1 hownU hfoU hfnU; obtain ⟨z0, z1⟩ := za3 (.string t.name) (.slice a8 (t.K.length + 1) c8) k7 k8
   have hsn : Tm.sizes [t] = 1 * t.size := by simp [Tm.sizes]; try omega
   go_wp2_with fail; exact bodyPost_ret (v := .agg #[.string t.name, .slice a8 (t.K.length + 1) c8]) (by simp [results, Tryz.results109, go_sem, z0, z1]) rfl (zbp (t := .mk t.name (t.K ++ [t])) ⟨by simp only [Tm.size, Tm.sizes_append, hsn]; omega, by rw [wt_more]; simp only [zgw, List.length_nil, List.map_cons, List.map_nil, zX, wtR]; omega⟩ hnm (by simpa [Tm.K, zgj] using k1) k2 (by omega) (by omega) k3 (by omega) k4 (by omega))
 by_cases hm2 : m = 2
 ·subst hm2
  clear hm0 hm1; go_wp2_with fail; refine (zF t.size t _ _ (zgo _) (by omega) (TmR.mk hnm ⟨ff, hrd⟩)).mono ?_; rintro e w6 ⟨kv6, fp6, rfl, hr6', hf6, hb6⟩; obtain ⟨a6, c6, rfl, hg1, hg2⟩ := zaJ hr6'; have hz6 := hb6.size; have t06 := za t0 hb6; have t16 := za t1 hb6
  have hbt6 : bt < w6.heap.size := by omega
  have hrd6 := (hrd.below hb6).below (zb w6 (.cells #[.string t.name, .slice a6 t.K.length c6] 28)); go_wp2_with fail; refine (zF t.size t _ _ (zgo _) (by omega) (TmR.mk hnm ⟨ff, hrd6⟩)).mono ?_; rintro e w7 ⟨kv7, fp7, rfl, hr7', hf7, hb7⟩; obtain ⟨a7, c7, rfl, hg3, hg4⟩ := zaJ hr7'; have hz7 := hb7.size; rw [zgs] at hz7; have hb67 := (zb w6 (.cells #[.string t.name, .slice a6 t.K.length c6] 28)).trans (hb7.mono (by simp)); have x60 : w7.cell? ⟨w6.heap.size, 0, none⟩ = some (.string t.name) := za (zx w6 _ _ 0 _ rfl) hb7; have x61 : w7.cell? ⟨w6.heap.size, 1, none⟩ = some (.slice a6 t.K.length c6) := za (zx w6 _ _ 1 _ rfl) hb7; have t07 := za t06 hb67; have t17 := za t16 hb67
  have hbt7 : bt < w7.heap.size := by omega
  have hl67 : w6.heap.size < w7.heap.size := by omega
  have hba : Below w7.heap.size w7 ((w7.alloc (.cells #[.string t.name, .slice a7 t.K.length c7] 28)).alloc (.cells #[.string t.name, .slice a6 t.K.length c6, .string t.name, .slice a7 t.K.length c7] 28)) := ((zgz _ _).alloc (zgo _) _).alloc (by simp) _; have hb6U := hb67.trans (hba.mono (by omega)); have HB := hb6.trans (hb6U.mono hz6); have hownU := hown.below HB; have hfoU := hfo.below HB; have hrn6 := hr6'.below hb6U; have hrn7 := hr7'.below hba; have hfnU : Fresh w5.heap.size ((w7.alloc (.cells #[.string t.name, .slice a7 t.K.length c7] 28)).alloc (.cells #[.string t.name, .slice a6 t.K.length c6, .string t.name, .slice a7 t.K.length c7] 28)) (fp6 ++ fp7) := Fresh.app (hf6.below hb6U) hf6.lt hz6 ((hf7.below hba).mono (by simp))
  have hsU : ((w7.alloc (.cells #[.string t.name, .slice a7 t.K.length c7] 28)).alloc (.cells #[.string t.name, .slice a6 t.K.length c6, .string t.name, .slice a7 t.K.length c7] 28)).heap.size = w7.heap.size + 1 + 1 := by simp
  replace q0 := za q0 HB; replace q1 := za q1 HB; replace qf0 := (zk (HB.block (w.heap.size + 1) (by omega))).trans qf0; replace qf1 := (zk (HB.block (w.heap.size + 1) (by omega))).trans qf1; replace t0 := za t0 HB; replace t1 := za t1 HB; replace tf1 := (zk (HB.block bt (by omega))).trans tf1; replace hr5 := hr5.below HB; replace hNw := hNw.trans (Only.below HB); go_wp2_with (at_builtin; refine zz zaU rfl _ _ rfl base _ _ _ rfl hownU ⟨w7.heap.size + 1, 0, none⟩ 2 2 [t.cd, t.cd] [.string t.name, .slice a6 t.K.length c6, .string t.name, .slice a7 t.K.length c7] (fp6 ++ fp7) rfl rfl ?rd ?k ?cells ?na ?bytes ?len ?base ?next)
  case rd => simpa using (Tm.rdvs hnm hrn6).app (Tm.rdvs hnm hrn7)
  case k => simp [Tm.cd_len]
  case cells => have h := zq (w7.alloc (.cells #[.string t.name, .slice a7 t.K.length c7] 28)) [.string t.name, .slice a6 t.K.length c6, .string t.name, .slice a7 t.K.length c7] 28; rw [zgs] at h; exact h
  case na => exact hown.away (zgo _) hfnU
  case bytes => omega
  case len => omega
  case base => omega
  case next =>
   intro v8 w8 hown8 hg hv8 hs8; obtain ⟨a8, c8, hv8e, hk8, hm8⟩ := hown8.form; obtain ⟨⟨c1, cf1, f0, f1, d0, d1, c0⟩, k1, k2, k3, k4, k5, k6, k7, k8⟩ := zeq (R := w.heap.size + 1) (bt := bt) (mid := w5.heap.size) hg (by rw [hsU]; exact hv8) hs8 hownU hown8 hfoU hfm (by omega) hfnU (by omega) hnfo hnow (by rw [hsU]; omega) hr5 (by omega) (by omega) hNw (by omega) (by omega) (by omega) (by rw [hsU]; omega) (by omega) t0 t1 tf1 q0 q1 qf0 qf1
   have hl8 : (t.K.map Tm.cd ++ [t.cd, t.cd]).length = t.K.length + 2 := by simp
   rw [hl8] at hv8e; subst hv8e; clear hg hv8 hs8 hown8 t0 t1 tf1 q0 q1 qf0 qf1 hownU hfoU hfnU; obtain ⟨z0, z1⟩ := za3 (.string t.name) (.slice a8 (t.K.length + 2) c8) k7 k8
   have hsn : Tm.sizes [t, t] = 2 * t.size := by simp [Tm.sizes]; try omega
   go_wp2_with fail; exact bodyPost_ret (v := .agg #[.string t.name, .slice a8 (t.K.length + 2) c8]) (by simp [results, Tryz.results109, go_sem, z0, z1]) rfl (zbp (t := .mk t.name (t.K ++ [t, t])) ⟨by simp only [Tm.size, Tm.sizes_append, hsn]; omega, by rw [wt_more]; simp only [zgw, List.length_nil, List.map_cons, List.map_nil, zX, wtR]; omega⟩ hnm (by simpa [Tm.K, zgj] using k1) k2 (by omega) (by omega) k3 (by omega) k4 (by omega))
 obtain ⟨z0, z1⟩ := za3 (.string t.name) (.slice ka t.K.length kc) q0 q1; go_wp2_with fail; exact bodyPost_ret (v := .agg #[.string t.name, .slice ka t.K.length kc]) (by simp [results, Tryz.results109, go_sem, z0, z1]) rfl (zbp (by omega) hnm hown hfo (by omega) (by omega) hr5 (by omega) hNw (by omega))
theorem zaW (n : Nat) (xs : List Int) (vs : List Value) (hn : n = xs.length) (hv : vs = xs.map (Value.int .i64)) (rb p lb : Nat) (w : World) (hp : p ≤ 1000000000) (h0 : 1 ≤ xs.length) (h1 : xs.length ≤ 1000) (hl : Lst rb vs lb w) (h : Rdr w rb p) :
  Calls Tryz.prog 71 #[.pointer (some ⟨rb, 0, none⟩), .slice (some ⟨lb, 0, none⟩) n n] w fun e w' => (∃ x, x ∈ xs ∧ e = .returned (.int .i64 x)) ∧ Rdr w' rb (p + 1) ∧ Only [rb] w w' := by
 subst hn; exact num_l xs vs hv rb p lb w hp h0 h1 hl h
theorem Lst.next2 {w : World} {rb : Nat} (h : rb < w.heap.size) (o o' : Obj) (vs : List Value) (T : TypeId) : Lst rb vs (w.heap.size + 1 + 1) (((w.alloc o).alloc o').alloc (.cells vs.toArray T)) := by
 have h1 := Lst.new1 (w := w.alloc o) (rb := rb) (by rw [zgs]; omega) o' vs T; rw [zgs] at h1; exact h1
/-- Few and small. -/
def Atm.few (y : Atm) : Prop := (y.a.size ≤ 100 ∧ wtV y.a.cd ≤ 500) ∧ (y.b.size ≤ 100 ∧ wtV y.b.cd ≤ 500) ∧ y.N.length ≤ 5 ∧ y.T.length = y.N.length ∧ ∀ u ∈ y.N, u.good
theorem zfd : (Tm.mk ⟨#[]⟩ []).size ≤ 100 ∧ wtV (Tm.mk ⟨#[]⟩ []).cd ≤ 500 := ⟨by decide, by rw [Tm.wtV_eq]; simp only [Tm.name, Tm.K, wtR, List.map_nil, List.length_nil]; decide⟩
/-- The atom y in memory, its rows the call's own from the block lo on. -/
structure AtOx (w : World) (lo : Nat) (y : Atm) (a2 : Option Addr) (c2 : Nat) (fA : List Nat) (a4 : Option Addr) (c4 : Nat) (fB : List Nat) (a5 : Option Addr) (c5 : Nat) (a6 : Option Addr) (c6 : Nat) (fn : List Nat) : Prop where
 k : I64 y.kind
 na : y.a.name.size ≤ maxLen
 ra : Rd w (.sl (y.a.K.map Tm.cd)) (.slice a2 y.a.K.length c2) fA
 nb : y.b.name.size ≤ maxLen
 rb : Rd w (.sl (y.b.K.map Tm.cd)) (.slice a4 y.b.K.length c4) fB
 o5 : Own w lo 28 2 (.slice a5 y.N.length c5) (y.N.map Tm.cd) fn
 o6 : Own w lo 3 1 (.slice a6 y.T.length c6) (y.T.map zv) []
 bd : I64 y.O
 d56 : ∀ g, (Value.slice a5 y.N.length c5).ownBlock = some g → (Value.slice a6 y.T.length c6).ownBlock ≠ some g
 d5 : ∀ g, (Value.slice a5 y.N.length c5).ownBlock = some g → g ∉ fA ∧ g ∉ fB
 d6 : ∀ g, (Value.slice a6 y.T.length c6).ownBlock = some g → g ∉ fA ∧ g ∉ fB ∧ g ∉ fn
 fr : ∀ b, b ∈ fA ∨ b ∈ fB ∨ b ∈ fn → lo ≤ b
theorem AtOx.rd {w : World} {lo : Nat} {y : Atm} {a2 : Option Addr} {c2 : Nat} {fA : List Nat} {a4 : Option Addr} {c4 : Nat} {fB : List Nat} {a5 a6 : Option Addr} {c5 c6 : Nat} {fn : List Nat} (h : AtOx w lo y a2 c2 fA a4 c4 fB a5 c5 a6 c6 fn) : ∃ f, RdVs w y.cd (yNl y a2 c2 a4 c4 a5 c5 a6 c6) f ∧ ∀ b ∈ f, lo ≤ b := by
 obtain ⟨g1, r1, q1⟩ := h.o5.rd; obtain ⟨g2, r2, q2⟩ := h.o6.rd; refine ⟨_, Atm.close h.k h.na h.ra h.nb h.rb r1 r2 h.bd, fun b hb => ?_⟩
 rcases zgg.1 hb with h1 | h1
 ·exact h.fr b (.inl h1)
 rcases zgg.1 h1 with h1 | h1
 ·exact h.fr b (.inr (.inl h1))
 rcases zgg.1 h1 with h1 | h1
 ·rcases q1 with ⟨_, _, rfl⟩ | ⟨b', _, _, rfl, _, h2, _⟩
  ·simp at h1
  ·rcases zgk.1 h1 with rfl | h1
   ·exact h2
   ·exact h.fr b (.inr (.inr h1))
 ·rcases q2 with ⟨_, _, rfl⟩ | ⟨b', _, _, rfl, _, h2, _⟩
  ·simp at h1
  ·rcases zgk.1 h1 with rfl | h1
   ·exact h2
   ·simp at h1
theorem AtOx.below {w w' : World} {lo : Nat} {y : Atm} {a2 : Option Addr} {c2 : Nat} {fA : List Nat} {a4 : Option Addr} {c4 : Nat} {fB : List Nat} {a5 a6 : Option Addr} {c5 c6 : Nat} {fn : List Nat} (h : AtOx w lo y a2 c2 fA a4 c4 fB a5 c5 a6 c6 fn) (hb : Below w.heap.size w w') : AtOx w' lo y a2 c2 fA a4 c4 fB a5 c5 a6 c6 fn :=
 ⟨h.k, h.na, h.ra.below hb, h.nb, h.rb.below hb, h.o5.below hb, h.o6.below hb, h.bd, h.d56, h.d5, h.d6, h.fr⟩
theorem AtOx.only {w w' : World} {lo rb : Nat} {y : Atm} {a2 : Option Addr} {c2 : Nat} {fA : List Nat} {a4 : Option Addr} {c4 : Nat} {fB : List Nat} {a5 a6 : Option Addr} {c5 c6 : Nat} {fn : List Nat} (h : AtOx w lo y a2 c2 fA a4 c4 fB a5 c5 a6 c6 fn) (ho : Only [rb] w w') (hr : rb < lo) : AtOx w' lo y a2 c2 fA a4 c4 fB a5 c5 a6 c6 fn :=
 ⟨h.k, h.na, h.ra.same _ (ho.sameOn (h.ra.lt _) (fun hm => by have := h.fr _ (.inl hm); omega)), h.nb, h.rb.same _ (ho.sameOn (h.rb.lt _) (fun hm => by have := h.fr _ (.inr (.inl hm)); omega)), h.o5.only ho hr (fun hm => by have := h.fr _ (.inr (.inr hm)); omega), h.o6.only ho hr (by simp), h.bd, h.d56, h.d5, h.d6, h.fr⟩
/-- A sum without terms. -/
theorem AtOx.zero (w : World) (lo : Nat) {kind bound : Int} (strict : Bool) (hk : I64 kind) (hb : I64 bound) : AtOx w lo ⟨kind, .mk ⟨#[]⟩ [], .mk ⟨#[]⟩ [], [], [], bound, strict⟩ none 0 [] none 0 [] none 0 none 0 [] :=
 ⟨hk, zgx _, zaF (cd := Tm.cd) none 0 (by simp), zgx _, zaF (cd := Tm.cd) none 0 (by simp), Own.nil _ _ _ _, Own.nil _ _ _ _, hb, by simp [Value.ownBlock], by simp [Value.ownBlock], by simp [Value.ownBlock], by simp⟩
/-- An equation of two terms. -/
theorem AtOx.eqn (w : World) (lo : Nat) {s t : Tm} {a2 a4 : Option Addr} {c2 c4 : Nat} {fA fB : List Nat} (ns : s.name.size ≤ maxLen) (rs : Rd w (.sl (s.K.map Tm.cd)) (.slice a2 s.K.length c2) fA) (nt : t.name.size ≤ maxLen) (rt : Rd w (.sl (t.K.map Tm.cd)) (.slice a4 t.K.length c4) fB) (hf : ∀ b, b ∈ fA ∨ b ∈ fB → lo ≤ b) :
  AtOx w lo ⟨1, s, t, [], [], 0, false⟩ a2 c2 fA a4 c4 fB none 0 none 0 [] :=
 ⟨by unfold I64; simp, ns, rs, nt, rt, Own.nil _ _ _ _, Own.nil _ _ _ _, by unfold I64; simp, by simp [Value.ownBlock], by simp [Value.ownBlock], by simp [Value.ownBlock], fun b hb => by
  rcases hb with h | h | h
  ·exact hf b (.inl h)
  ·exact hf b (.inr h)
  ·simp at h⟩
/-- What l6Put gave. -/
theorem PutOut.at {x : Atm} {fx ft : List Nat} {w w' : World} {e : Ending} {lo : Nat} (h : PutOut x fx ft w e w') (hk : I64 x.kind) (hb : I64 x.O) (hx : ∀ b ∈ fx, lo ≤ b) (ht : ∀ b ∈ ft, lo ≤ b) (hl : lo ≤ w.heap.size) :
  ∃ (y : Atm) (a5 : Option Addr) (c5 : Nat) (a6 : Option Addr) (c6 : Nat) (fn : List Nat), y.kind = x.kind ∧ y.a = .mk ⟨#[]⟩ [] ∧ y.b = .mk ⟨#[]⟩ [] ∧ y.O = x.O ∧ y.N.length ≤ x.N.length + 1 ∧ y.T.length = y.N.length ∧ (∀ u ∈ y.N, u.good) ∧
   e = .returned (.agg (yNa y none 0 none 0 a5 c5 a6 c6)) ∧ AtOx w' lo y none 0 [] none 0 [] a5 c5 a6 c6 fn ∧ Below w.heap.size w w' := by
 obtain ⟨y, a5, c5, a6, c6, fn, h1, h2, h3, h4, h5, h6, h7, rfl, h9, h10, h11, h12, h13⟩ := h; refine ⟨y, a5, c5, a6, c6, fn, h1, h2, h3, h4, h5, h6, h7, by unfold yNa; rw [h2, h3]; rfl, ⟨h1 ▸ hk, by rw [h2]; exact zgx _, by rw [h2]; exact zaF (cd := Tm.cd) none 0 (by simp), by rw [h3]; exact zgx _, by rw [h3]; exact zaF (cd := Tm.cd) none 0 (by simp), h9.base (fun b hb => by have := (h9.block hb).1; omega), h10.base (fun b hb => by have := (h10.block hb).1; omega), h4 ▸ hb, h11, by simp, fun g hg => ⟨by simp, by simp, fun hm => by have := (h10.block hg).1; have := (h12 g hm).2; omega⟩, fun b hb => ?_⟩, h13⟩
 rcases hb with h | h | h
 ·simp at h
 ·simp at h
 ·rcases (h12 b h).1 with h | h
  ·exact hx b h
  ·exact ht b h
theorem Lst.sets_other {u : World} {rb lb b : Nat} {vs : List Value} (h : Lst rb vs lb u) (hne : lb < b ∨ b < lb) (ups : List (Nat × Value)) : Lst rb vs lb (zi b ups u) := by
 have hL := Loc.sets (b := b) (lo := b) (hi := b + 1) (zgo _) (by omega) ups (Loc.refl _ _ u); have hk := hL.block lb h.2.1 (by omega); exact ⟨h.1, zge h.2.1 hL.size, fun j x hx => ze hk (h.2.2.1 j x hx), fun j => zp hk (h.2.2.2 j)⟩
theorem Lst.nine {u : World} {rb b : Nat} {x0 x1 x2 x3 x4 x5 x6 x7 x8 : Value} (v0 v1 v2 v3 v4 v5 v6 v7 v8 : Value) (h : Lst rb [x0, x1, x2, x3, x4, x5, x6, x7, x8] b u) : Lst rb [v0, v1, v2, v3, v4, v5, v6, v7, v8] b (zi b [(0, v0), (1, v1), (2, v2), (3, v3), (4, v4), (5, v5), (6, v6), (7, v7), (8, v8)] u) := by
 have hL := Loc.sets (b := b) (lo := b) (hi := b + 1) (zgo _) (by omega) [(0, v0), (1, v1), (2, v2), (3, v3), (4, v4), (5, v5), (6, v6), (7, v7), (8, v8)] (Loc.refl _ _ u)
 have NS := zal (u := u) (b := b) v0 v1 v2 v3 v4 v5 v6 v7 v8 (fun j hj => by
  rcases j with _ | _ | _ | _ | _ | _ | _ | _ | _ | j
  all_goals first | exact ⟨_, h.2.2.1 _ _ rfl⟩ | omega)
 obtain ⟨r0, r1, r2, r3, r4, r5, r6, r7, r8⟩ := NS; refine ⟨h.1, zge h.2.1 hL.size, fun j x hx => ?_, zak _ h.2.2.2⟩
 rcases j with _ | _ | _ | _ | _ | _ | _ | _ | _ | j
 ·obtain rfl := zgA hx; exact r0
 ·obtain rfl := zgA hx; exact r1
 ·obtain rfl := zgA hx; exact r2
 ·obtain rfl := zgA hx; exact r3
 ·obtain rfl := zgA hx; exact r4
 ·obtain rfl := zgA hx; exact r5
 ·obtain rfl := zgA hx; exact r6
 ·obtain rfl := zgA hx; exact r7
 ·obtain rfl := zgA hx; exact r8
 ·simp at hx
theorem AtOx.mono {w : World} {lo lo' : Nat} {y : Atm} {a2 : Option Addr} {c2 : Nat} {fA : List Nat} {a4 : Option Addr} {c4 : Nat} {fB : List Nat} {a5 a6 : Option Addr} {c5 c6 : Nat} {fn : List Nat} (h : AtOx w lo y a2 c2 fA a4 c4 fB a5 c5 a6 c6 fn) (hl : lo' ≤ lo) : AtOx w lo' y a2 c2 fA a4 c4 fB a5 c5 a6 c6 fn :=
 ⟨h.k, h.na, h.ra, h.nb, h.rb, h.o5.base (fun b hb => by have := (h.o5.block hb).1; omega), h.o6.base (fun b hb => by have := (h.o6.block hb).1; omega), h.bd, h.d56, h.d5, h.d6, fun b hb => by have := h.fr b hb; omega⟩
theorem AtOx.sets {w : World} {lo b : Nat} {y : Atm} {a2 : Option Addr} {c2 : Nat} {fA : List Nat} {a4 : Option Addr} {c4 : Nat} {fB : List Nat} {a5 a6 : Option Addr} {c5 c6 : Nat} {fn : List Nat} (h : AtOx w lo y a2 c2 fA a4 c4 fB a5 c5 a6 c6 fn) (ups : List (Nat × Value)) (hl : b < lo) : AtOx (zi b ups w) lo y a2 c2 fA a4 c4 fB a5 c5 a6 c6 fn := by
 have hL := Loc.sets (b := b) (lo := b) (hi := b + 1) (zgo _) (by omega) ups (Loc.refl _ _ w); have hk : ∀ q, q < w.heap.size → lo ≤ q → (zi b ups w).heap[q]? = w.heap[q]? := fun q hq hn => hL.block q hq (.inr (by omega)); have l1 := h.ra.lt _; have l2 := h.rb.lt _; exact ⟨h.k, h.na, h.ra.same _ (fun q hq => hk q (l1 q hq) (h.fr q (.inl hq))), h.nb, h.rb.same _ (fun q hq => hk q (l2 q hq) (h.fr q (.inr (.inl hq)))), h.o5.same (fun q hq => hk q (h.o5.lt q hq) (h.fr q (.inr (.inr hq)))) (fun q hq => hk q (h.o5.block hq).2 (h.o5.block hq).1), h.o6.same (fun q hq => by simp at hq) (fun q hq => hk q (h.o6.block hq).2 (h.o6.block hq).1), h.bd, h.d56, h.d5, h.d6, h.fr⟩
theorem Only.setsR {w : World} {rb b : Nat} (h2 : w.heap.size ≤ b) : ∀ (ups : List (Nat × Value)) {u : World}, Only [rb] w u → Only [rb] w (zi b ups u)
 | [], _, h => h
 | p :: r, _, h => Only.setsR h2 r (h.set_new h2)
theorem Rdr.sets {rb b q : Nat} (h2 : rb < b) : ∀ (ups : List (Nat × Value)) {u : World}, Rdr u rb q → Rdr (zi b ups u) rb q
 | [], _, h => h
 | p :: r, _, h => Rdr.sets h2 r (h.set h2)
/-- Small. -/
theorem Atm.wtV_eq (y : Atm) : wtV y.cd = wtV y.a.cd + (wtV y.b.cd + (y.N.length + wtR (y.N.map Tm.cd) + y.T.length)) := by
 simp only [Atm.cd, zI, zaS, zaj, zav, zeZ]; omega
def Atm.tame (y : Atm) : Prop := y.a.size ≤ 1000 ∧ y.b.size ≤ 1000 ∧ y.N.length ≤ 10 ∧ y.T.length ≤ 10 ∧ (∀ u ∈ y.N, u.size ≤ 1000) ∧ wtV y.cd ≤ 5000
theorem zcn : ∀ (ts : List Tm), (∀ u ∈ ts, u.good) → wtR (ts.map Tm.cd) ≤ 300 * ts.length
 | [], _ => by simp [wtR]
 | t :: ts, h => by
  have h1 := zcn ts (fun u hu => h u (by simp [hu])); have h2 := zcR t _ (h t (by simp)).2; have h3 := (h t (by simp)).1; simp only [List.map_cons, zX, zgw]; omega
theorem Atm.few.tame {y : Atm} (h : y.few) : y.tame := ⟨by have := h.1.1; omega, by have := h.2.1.1; omega, by have := h.2.2.1; omega, by have := h.2.2.1; have := h.2.2.2.1; omega, fun u hu => by have := (h.2.2.2.2 u hu).1; omega, by
 have h1 := zcn y.N h.2.2.2.2; have h2 := h.2.2.1; have h3 := h.2.2.2.1; have h4 := h.1.2; have h5 := h.2.1.2
 rw [Atm.wtV_eq]; omega⟩
theorem few_rest {y : Atm} (h : y.few) : wtV y.b.cd + (y.N.length + wtR (y.N.map Tm.cd) + y.T.length) ≤ 4000 := by
 have h1 := zcn y.N h.2.2.2.2; have h2 := h.2.2.1; have h3 := h.2.2.2.1; have h5 := h.2.1.2; omega
/-- A drawn atom, as it reads. -/
def DrawnA (w : World) (e : Ending) (w' : World) : Prop := ∃ (y : Atm) (vs : List Value) (f : List Nat), y.tame ∧ e = .returned (.agg vs.toArray) ∧ RdVs w' y.cd vs f ∧ ∀ b ∈ f, w.heap.size ≤ b
/-- It reads, in blocks from lo on, and not in V. -/
def RdX (w : World) (lo V : Nat) (d : CD) (v : Value) : Prop := ∃ f, Rd w d v f ∧ ∀ b ∈ f, lo ≤ b ∧ b ≠ V
theorem RdX.same {w w' : World} {lo V : Nat} {d : CD} {v : Value} (h : RdX w lo V d v) (hs : ∀ b, b < w.heap.size → lo ≤ b → b ≠ V → w'.heap[b]? = w.heap[b]?) : RdX w' lo V d v := by
 obtain ⟨f, h1, h2⟩ := h; exact ⟨f, h1.same d (fun b hb => hs b (h1.lt d b hb) (h2 b hb).1 (h2 b hb).2), h2⟩
theorem Own.rdX {w : World} {base e k lo V : Nat} {v : Value} {es : List (List CD)} {fp : List Nat} (h : Own w base e k v es fp) (hl : lo ≤ base) (hf : ∀ b ∈ fp, lo ≤ b ∧ b ≠ V) (hv : v.ownBlock ≠ some V) : RdX w lo V (.sl es) v := by
 obtain ⟨f, h1, h2⟩ := h.rd; refine ⟨f, h1, fun b hb => ?_⟩
 rcases h2 with ⟨_, _, rfl⟩ | ⟨b', _, hb', rfl, _, h2, _⟩
 ·simp at hb
 ·rcases zgk.1 hb with rfl | hb
  ·exact ⟨by omega, fun e => hv (e ▸ hb')⟩
  ·exact hf b hb
theorem zet {w : World} : ∀ (l : List Int) (vs : List Value) (f : List Nat), RdVs w (l.map zv).flatten vs f → vs = l.map (Value.int .i64) ∧ f = [] ∧ ∀ x ∈ l, I64 x
 | [], vs, f, h => by simp [RdVs] at h; simp [h]
 | x :: l, vs, f, h => by
  simp only [List.map_cons, List.flatten_cons] at h; obtain ⟨us, us', g, g', rfl, rfl, h1, h2⟩ := h.split; obtain ⟨h3, h4, h5⟩ := zet l _ _ h2; obtain ⟨v, rfl, hr⟩ := RdVs.one_inv h1; obtain ⟨rfl, hi, rfl⟩ := zaG hr; refine ⟨by rw [h3]; rfl, by rw [h4]; rfl, fun y hy => ?_⟩
  rcases zgk.1 hy with rfl | hy
  ·exact hi
  ·exact h5 y hy
theorem zcg {w : World} : ∀ (l : List Int), (∀ x ∈ l, I64 x) → RdVs w (l.map zv).flatten (l.map (Value.int .i64)) []
 | [], _ => by simp [RdVs]
 | x :: l, h => by
  have h1 : RdVs w (zv x) [Value.int .i64 x] [] := RdVs.single (by simp only [Rd]; exact ⟨trivial, h x (by simp), trivial⟩); exact h1.app (zcg l fun y hy => h y (by simp [hy]))
theorem Own.ints {w : World} {B : Nat} {v : Value} {l : List Int} (h : Own w B 3 1 v (l.map zv) []) : w.ownsRow B 3 1 v l.length (l.map (Value.int .i64)) ∧ ∀ x ∈ l, I64 x := by
 obtain ⟨xs, h1, h2, _, _⟩ := h; obtain ⟨rfl, _, h3⟩ := zet _ _ _ h2; exact ⟨by simpa using h1, h3⟩
/-- A store into a row of numbers of the call's own. -/
theorem iset {w : World} {B g c : Nat} {l : List Int} (h : Own w B 3 1 (.slice (some ⟨g, 0, none⟩) l.length c) (l.map zv) []) (k : Nat) {x : Int} (hx : I64 x) :
  Own (w.setCell ⟨g, k, none⟩ (.int .i64 x)) B 3 1 (.slice (some ⟨g, 0, none⟩) l.length c) ((l.set k x).map zv) [] := by
 obtain ⟨h1, h2⟩ := h.ints; obtain ⟨h3, h4⟩ := h1.stored k (.int .i64 x)
 exact ⟨_, by rw [zgl, List.length_set, List.map_set]; exact h3, zcg _ (fun y hy => by
  rcases List.mem_or_eq_of_mem_set hy with hy | rfl
  ·exact h2 y hy
  ·exact hx), by simp only [List.mem_map]; rintro x ⟨y, _, rfl⟩; rfl, by simp⟩
theorem Own.ints_form {w : World} {B n c : Nat} {a : Option Addr} {l : List Int} (h : Own w B 3 1 (.slice a n c) (l.map zv) []) (hl : 0 < l.length) : ∃ g, a = some ⟨g, 0, none⟩ ∧ B ≤ g ∧ g < w.heap.size ∧ w.cell? ⟨g, 0, none⟩ = some (.int .i64 (l[0])) ∧ w.frozen? ⟨g, 0, none⟩ = false := by
 obtain ⟨h1, _⟩ := h.ints; have hc := h1
 rcases h1.2 with ⟨_, h0⟩ | ⟨g, c', cur, he, hbg, hg, hnc, hcm, hcs, htk⟩
 ·omega
 ·simp only [Value.slice.injEq] at he
  obtain ⟨rfl, rfl, rfl⟩ := he; have h2 := hc.cells (g := g) rfl 0 (.int .i64 l[0]) (by simp [hl]); rw [Addr.add_lit] at h2; exact ⟨g, rfl, hbg, (hc.lt g rfl).2, by simpa using h2, hc.frozenAt 0⟩
/-- An atom in memory, as it reads. -/
structure AtL (w : World) (lo V : Nat) (y : Atm) (a2 : Option Addr) (c2 : Nat) (a4 : Option Addr) (c4 : Nat) (a5 : Option Addr) (c5 : Nat) (a6 : Option Addr) (c6 : Nat) : Prop where
 k : I64 y.kind
 na : y.a.name.size ≤ maxLen
 ra : RdX w lo V (.sl (y.a.K.map Tm.cd)) (.slice a2 y.a.K.length c2)
 nb : y.b.name.size ≤ maxLen
 rb : RdX w lo V (.sl (y.b.K.map Tm.cd)) (.slice a4 y.b.K.length c4)
 r5 : RdX w lo V (.sl (y.N.map Tm.cd)) (.slice a5 y.N.length c5)
 r6 : RdX w lo V (.sl (y.T.map zv)) (.slice a6 y.T.length c6)
 bd : I64 y.O
theorem AtL.rd {w : World} {lo V : Nat} {y : Atm} {a2 a4 a5 a6 : Option Addr} {c2 c4 c5 c6 : Nat} (h : AtL w lo V y a2 c2 a4 c4 a5 c5 a6 c6) : ∃ f, RdVs w y.cd (yNl y a2 c2 a4 c4 a5 c5 a6 c6) f ∧ ∀ b ∈ f, lo ≤ b := by
 obtain ⟨f2, r2, h2⟩ := h.ra; obtain ⟨f4, r4, h4⟩ := h.rb; obtain ⟨f5, r5, h5⟩ := h.r5; obtain ⟨f6, r6, h6⟩ := h.r6; refine ⟨_, Atm.close h.k h.na r2 h.nb r4 r5 r6 h.bd, fun b hb => ?_⟩
 rcases zgg.1 hb with h1 | h1
 ·exact (h2 b h1).1
 rcases zgg.1 h1 with h1 | h1
 ·exact (h4 b h1).1
 rcases zgg.1 h1 with h1 | h1
 ·exact (h5 b h1).1
 ·exact (h6 b h1).1
theorem AtL.same {w w' : World} {lo V : Nat} {y : Atm} {a2 a4 a5 a6 : Option Addr} {c2 c4 c5 c6 : Nat} (h : AtL w lo V y a2 c2 a4 c4 a5 c5 a6 c6) (hs : ∀ b, b < w.heap.size → lo ≤ b → b ≠ V → w'.heap[b]? = w.heap[b]?) : AtL w' lo V y a2 c2 a4 c4 a5 c5 a6 c6 :=
 ⟨h.k, h.na, h.ra.same hs, h.nb, h.rb.same hs, h.r5.same hs, h.r6.same hs, h.bd⟩
theorem AtL.below {w w' : World} {lo V : Nat} {y : Atm} {a2 a4 a5 a6 : Option Addr} {c2 c4 c5 c6 : Nat} (h : AtL w lo V y a2 c2 a4 c4 a5 c5 a6 c6) (hb : Below w.heap.size w w') : AtL w' lo V y a2 c2 a4 c4 a5 c5 a6 c6 := h.same fun b h1 _ _ => hb.block b h1
theorem AtL.only {w w' : World} {rb lo V : Nat} {y : Atm} {a2 a4 a5 a6 : Option Addr} {c2 c4 c5 c6 : Nat} (h : AtL w lo V y a2 c2 a4 c4 a5 c5 a6 c6) (ho : Only [rb] w w') (hr : rb < lo) : AtL w' lo V y a2 c2 a4 c4 a5 c5 a6 c6 := h.same fun b h1 h2 _ => ho.block b h1 (by simp; omega)
theorem AtL.setV {w : World} {lo V : Nat} {y : Atm} {a2 a4 a5 a6 : Option Addr} {c2 c4 c5 c6 : Nat} (h : AtL w lo V y a2 c2 a4 c4 a5 c5 a6 c6) (ups : List (Nat × Value)) : AtL (zi V ups w) lo V y a2 c2 a4 c4 a5 c5 a6 c6 := by
 have hL := Loc.sets (b := V) (lo := V) (hi := V + 1) (zgo _) (by omega) ups (Loc.refl _ _ w); exact h.same fun b h1 h2 h3 => hL.block b h1 (by omega)
theorem AtL.setLow {w : World} {b lo V : Nat} {y : Atm} {a2 a4 a5 a6 : Option Addr} {c2 c4 c5 c6 : Nat} (h : AtL w lo V y a2 c2 a4 c4 a5 c5 a6 c6) (ups : List (Nat × Value)) (hb : b < lo) : AtL (zi b ups w) lo V y a2 c2 a4 c4 a5 c5 a6 c6 := by
 have hL := Loc.sets (b := b) (lo := b) (hi := b + 1) (zgo _) (by omega) ups (Loc.refl _ _ w); exact h.same fun q h1 h2 h3 => hL.block q h1 (by omega)
theorem AtL.kind {w : World} {lo V : Nat} {y : Atm} {a2 a4 a5 a6 : Option Addr} {c2 c4 c5 c6 : Nat} (h : AtL w lo V y a2 c2 a4 c4 a5 c5 a6 c6) {x : Int} (hx : I64 x) : AtL w lo V { y with kind := x } a2 c2 a4 c4 a5 c5 a6 c6 := ⟨hx, h.na, h.ra, h.nb, h.rb, h.r5, h.r6, h.bd⟩
theorem AtL.O {w : World} {lo V : Nat} {y : Atm} {a2 a4 a5 a6 : Option Addr} {c2 c4 c5 c6 : Nat} (h : AtL w lo V y a2 c2 a4 c4 a5 c5 a6 c6) {x : Int} (hx : I64 x) : AtL w lo V { y with O := x } a2 c2 a4 c4 a5 c5 a6 c6 := ⟨h.k, h.na, h.ra, h.nb, h.rb, h.r5, h.r6, hx⟩
theorem AtL.termA {w : World} {lo V : Nat} {y : Atm} {a2 a4 a5 a6 : Option Addr} {c2 c4 c5 c6 : Nat} (h : AtL w lo V y a2 c2 a4 c4 a5 c5 a6 c6) {t : Tm} {ka : Option Addr} {kc : Nat} (hn : t.name.size ≤ maxLen) (hr : RdX w lo V (.sl (t.K.map Tm.cd)) (.slice ka t.K.length kc)) : AtL w lo V { y with a := t } ka kc a4 c4 a5 c5 a6 c6 := ⟨h.k, hn, hr, h.nb, h.rb, h.r5, h.r6, h.bd⟩
/-- Its rows are not V. -/
def AtOff (V : Nat) (y : Atm) (fA fB : List Nat) (a5 : Option Addr) (c5 : Nat) (a6 : Option Addr) (c6 : Nat) (fn : List Nat) : Prop := (Value.slice a5 y.N.length c5).ownBlock ≠ some V ∧ (Value.slice a6 y.T.length c6).ownBlock ≠ some V ∧ ∀ b, b ∈ fA ∨ b ∈ fB ∨ b ∈ fn → b ≠ V
theorem AtOx.off {w : World} {lo : Nat} {y : Atm} {a2 : Option Addr} {c2 : Nat} {fA : List Nat} {a4 : Option Addr} {c4 : Nat} {fB : List Nat} {a5 a6 : Option Addr} {c5 c6 : Nat} {fn : List Nat} (h : AtOx w lo y a2 c2 fA a4 c4 fB a5 c5 a6 c6 fn) : AtOff w.heap.size y fA fB a5 c5 a6 c6 fn :=
 ⟨fun e => by have := (h.o5.block e).2; omega, fun e => by have := (h.o6.block e).2; omega, fun b hb => by
  rcases hb with h1 | h1 | h1
  ·have := h.ra.lt _ b h1; omega
  ·have := h.rb.lt _ b h1; omega
  ·have := h.o5.lt b h1; omega⟩
theorem AtOx.toL {w : World} {lo V : Nat} {y : Atm} {a2 : Option Addr} {c2 : Nat} {fA : List Nat} {a4 : Option Addr} {c4 : Nat} {fB : List Nat} {a5 a6 : Option Addr} {c5 c6 : Nat} {fn : List Nat} (h : AtOx w lo y a2 c2 fA a4 c4 fB a5 c5 a6 c6 fn) (hf : AtOff V y fA fB a5 c5 a6 c6 fn) : AtL w lo V y a2 c2 a4 c4 a5 c5 a6 c6 :=
 ⟨h.k, h.na, ⟨fA, h.ra, fun b hb => ⟨h.fr b (.inl hb), hf.2.2 b (.inl hb)⟩⟩, h.nb, ⟨fB, h.rb, fun b hb => ⟨h.fr b (.inr (.inl hb)), hf.2.2 b (.inr (.inl hb))⟩⟩, h.o5.rdX (zgo _) (fun b hb => ⟨h.fr b (.inr (.inr hb)), hf.2.2 b (.inr (.inr hb))⟩) hf.1, h.o6.rdX (zgo _) (by simp) hf.2.1, h.bd⟩
/-- Behind a store into the row of times. -/
theorem AtOx.setTime {w : World} {lo V g : Nat} {y : Atm} {a2 : Option Addr} {c2 : Nat} {fA : List Nat} {a4 : Option Addr} {c4 : Nat} {fB : List Nat} {a5 : Option Addr} {c5 c6 : Nat} {fn : List Nat} (h : AtOx w lo y a2 c2 fA a4 c4 fB a5 c5 (some ⟨g, 0, none⟩) c6 fn) (hf : AtOff V y fA fB a5 c5 (some ⟨g, 0, none⟩) c6 fn) {x : Int} (hx : I64 x) : AtL (w.setCell ⟨g, 0, none⟩ (.int .i64 x)) lo V { y with T := y.T.set 0 x } a2 c2 a4 c4 a5 c5 (some ⟨g, 0, none⟩) c6 := by
 have hg : (Value.slice (some ⟨g, 0, none⟩) y.T.length c6).ownBlock = some g := rfl; have hk : ∀ b, b ≠ g → (w.setCell ⟨g, 0, none⟩ (.int .i64 x)).heap[b]? = w.heap[b]? := fun b hb => Below.heap_setCell _ _ _ _ (fun e : b = g => hb e); have h0 := (h.toL hf); have hd6 := h.d6 g hg; have hd5 : (Value.slice a5 y.N.length c5).ownBlock ≠ some g := fun e => h.d56 g e hg; refine ⟨h.k, h.na, ⟨fA, h.ra.same _ (fun b hb => hk b (fun e => hd6.1 (e ▸ hb))), fun b hb => ⟨h.fr b (.inl hb), hf.2.2 b (.inl hb)⟩⟩, h.nb, ⟨fB, h.rb.same _ (fun b hb => hk b (fun e => hd6.2.1 (e ▸ hb))), fun b hb => ⟨h.fr b (.inr (.inl hb)), hf.2.2 b (.inr (.inl hb))⟩⟩, (h.o5.set_ne hd6.2.2 hd5).rdX (zgo _) (fun b hb => ⟨h.fr b (.inr (.inr hb)), hf.2.2 b (.inr (.inr hb))⟩) hf.1, ?_, h.bd⟩; have hI := iset h.o6 0 hx
 show RdX _ lo V (.sl ((y.T.set 0 x).map zv)) (.slice _ (y.T.set 0 x).length c6)
 rw [List.length_set]; exact hI.rdX (zgo _) (by simp) hf.2.1
/-- Behind an append to the row of terms. -/
theorem AtOx.more {w w' : World} {lo V : Nat} {y : Atm} {t : Tm} {v' : Value} {fn' : List Nat} {a2 : Option Addr} {c2 : Nat} {fA : List Nat} {a4 : Option Addr} {c4 : Nat} {fB : List Nat} {a5 a6 : Option Addr} {c5 c6 : Nat} {fn : List Nat} (h : AtOx w lo y a2 c2 fA a4 c4 fB a5 c5 a6 c6 fn) (hf : AtOff V y fA fB a5 c5 a6 c6 fn) (hV : V < w.heap.size)
  (hg : w.grownBy w' (Value.slice a5 y.N.length c5).ownBlock) (ho : Own w' lo 28 2 v' ((y.N ++ [t]).map Tm.cd) fn') (hv : ∀ b, v'.ownBlock = some b → (Value.slice a5 y.N.length c5).ownBlock = some b ∨ w.heap.size ≤ b) (hn : ∀ b ∈ fn', lo ≤ b ∧ b ≠ V) :
  ∃ e5 g5, v' = .slice e5 (y.N ++ [t]).length g5 ∧ AtL w' lo V { y with N := y.N ++ [t] } a2 c2 a4 c4 e5 g5 a6 c6 := by
 obtain ⟨e5, g5, rfl, _, _⟩ := ho.form; rw [zgl] at ho hv; refine ⟨e5, g5, by rw [zgl], ?_⟩; have hb : ∀ b, b < w.heap.size → (Value.slice a5 y.N.length c5).ownBlock ≠ some b → w'.heap[b]? = w.heap[b]? := fun b h1 h2 => hg.block b h1 (fun e => h2 e.symm); refine ⟨h.k, h.na, ⟨fA, h.ra.same _ (fun b hm => hb b (h.ra.lt _ b hm) (fun e => (h.d5 b e).1 hm)), fun b hm => ⟨h.fr b (.inl hm), hf.2.2 b (.inl hm)⟩⟩, h.nb, ⟨fB, h.rb.same _ (fun b hm => hb b (h.rb.lt _ b hm) (fun e => (h.d5 b e).2 hm)), fun b hm => ⟨h.fr b (.inr (.inl hm)), hf.2.2 b (.inr (.inl hm))⟩⟩, ho.rdX (zgo _) hn (fun e => ?_), ?_, h.bd⟩
 ·rcases hv V e with h1 | h1
  ·exact hf.1 h1
  ·omega
 ·exact (h.o6.same (w' := w') (fun b hm => by simp at hm) (fun b hm => hb b (h.o6.block hm).2 (fun e => h.d56 b e hm))).rdX (zgo _) (by simp) hf.2.1
theorem Lst.put {u : World} {rb b : Nat} {vs : List Value} (h : Lst rb vs b u) {k : Nat} (hk : k < vs.length) (v : Value) : Lst rb (vs.set k v) b (u.setCell ⟨b, k, none⟩ v) := by
 obtain ⟨h1, h2, h3, h4⟩ := h; refine ⟨h1, by simpa [World.setCell] using h2, fun j x hx => ?_, fun j => by simp [go_sem, h4 j]⟩
 by_cases e : j = k
 ·subst e
  rw [List.getElem?_set_self hk] at hx; obtain rfl := zgA hx; exact zgu u ⟨b, j, none⟩ v (h3 j _ (zgp hk))
 ·rw [List.getElem?_set_ne (fun h => e h.symm)] at hx
  exact (zgt _ _ _ _ (by intro h; simp only [Addr.mk.injEq] at h; omega)).trans (h3 j x hx)
end Go.Proofs.YtbfinjiledfpcaaGreat
end
