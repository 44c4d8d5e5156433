/- Parts of the proof: Rdr3. -/
import Derived.Test.YtlefdhhnlbpbkaaGreatPv12
import Derived.Test.YtlefdhhnlbpbkaaGreatPv6
import Derived.Test.YtlefdhhnlbpbkaaGreatPv9
section
namespace Go.Proofs.YtlefdhhnlbpbkaaGreat
open Go Go.RowKit
set_option linter.unusedVariables false
set_option linter.unusedSimpArgs false
set_option maxRecDepth 100000
set_option maxHeartbeats 16000000
theorem zaY {w : World} {b n c k : Nat} {es : List (List CD)} {vs : List Value} {f : List Nat} (hc : ∀ j u, vs[j]? = some u → w.cell? ⟨b, j, none⟩ = some u) (h : RdVs w es.flatten vs f) (hne : es ≠ []) (hn : n = es.length) (hcap : es.length ≤ c) (hm : c ≤ 9223372036854775807) (hb : b < w.heap.size) :
  Rd w (.sl es) (.slice (some ⟨b, 0, none⟩) n c) (b :: f) := by
 simp only [Rd]
 exact ⟨_, c, by rw [hn], hcap, by simpa [maxLen] using hm, .inr ⟨hne, b, 0, f, rfl, hb, rfl, RdRows.mk (k := k) (fun j u hu => by rw [Nat.zero_add]; exact hc j u hu) h⟩⟩
theorem zav {w : World} {α : Type} {cd : α → List CD} (a : Option Addr) : Rd w (.sl (([] : List α).map cd)) (.slice a 0 0) [] := by
 simp only [List.map_nil, Rd]; exact ⟨a, 0, rfl, by simp, by simp [maxLen], by simp⟩
/-- Words that are drawn: few, of few arguments. -/
def Sg.few (s : Sg) : Prop := s.syms.length ≤ 5 ∧ ∀ y ∈ s.syms, y.args.length ≤ 2
theorem zg (w : World) (vs : List Value) (T : Nat) (j : Nat) (u : Value) (h : vs[j]? = some u) : (w.alloc (.cells vs.toArray T)).cell? ⟨w.heap.size, j, none⟩ = some u := by
 rw [zv]; simpa using h
theorem sym0 (w : World) (nm : ByteArray) (k : Int) (h : nm.size ≤ 9223372036854775807) (hk : -9223372036854775808 ≤ k ∧ k ≤ 9223372036854775807) : RdVs w (Sy.cd ⟨nm, [], k⟩) [.string nm, .slice none 0 0, .int .i64 k] [] :=
 Sy.close (x := ⟨nm, [], k⟩) (f1 := []) (by simpa [maxLen] using h) (zav none) hk
theorem zdH {w : World} : ∀ (l : List Int), (∀ x ∈ l, I64 x) → RdVs w (l.map zk).flatten (l.map (Value.int .i64)) []
 | [], _ => by simp only [List.map_nil, List.flatten_nil, RdVs]; exact ⟨trivial, trivial⟩
 | x :: l, h => by
  have := (RdVs.single (w := w) (d := .int x) (v := .int .i64 x) (fp := []) (by simp only [Rd]; exact ⟨trivial, h x (by simp), trivial⟩)).app (zdH l (fun y hy => h y (by simp [hy])))
  simpa [zk] using this
theorem sym1 (w : World) (nm : ByteArray) (l : List Int) (k : Int) (b : Nat) (h : nm.size ≤ 9223372036854775807) (hk : -9223372036854775808 ≤ k ∧ k ≤ 9223372036854775807) (hne : l ≠ []) (hl : l.length ≤ 1000) (ha : ∀ x ∈ l, I64 x) (hb : b < w.heap.size)
  (hc : ∀ j u, (l.map (Value.int .i64))[j]? = some u → w.cell? ⟨b, j, none⟩ = some u) : RdVs w (Sy.cd ⟨nm, l, k⟩) [.string nm, .slice (some ⟨b, 0, none⟩) l.length l.length, .int .i64 k] [b] :=
 Sy.close (x := ⟨nm, l, k⟩) (f1 := [b]) (by simpa [maxLen] using h) (zaY (k := 1) hc (zdH l ha) (by simpa using hne) (by simp) (by simp) (by omega) hb) hk
theorem zd4 (k : Int) (w : World) :
  Calls Tryz.prog 101 #[.int .i64 k] w fun e w' => (∃ (s : Sg) (vs : List Value) (f : List Nat), s.few ∧ e = .returned (.agg vs.toArray) ∧ RdVs w' s.cd vs f ∧ ∀ b ∈ f, w.heap.size ≤ b) ∧ Below w.heap.size w w' := by
 by_cases k0 : k = 0
 rotate_left
 by_cases k1 : k = 1
 rotate_left
 by_cases k2 : k = 2
 rotate_left
 by_cases k3 : k = 3
 rotate_left
 ·have d0 : (k == 0) = false := by simpa using k0
  have d1 : (k == 1) = false := by simpa using k1
  have d2 : (k == 2) = false := by simpa using k2
  have d3 : (k == 3) = false := by simpa using k3
  go_enter Tryz.func101, Tryz.ntmps101
  go_wp2_with fail
  generalize hW : (w.alloc (.cells #[.slice (some ⟨w.heap.size + 1, 0, none⟩) 0 0] 25)).alloc (.cells #[] 102) = W
  have hz : W.heap.size = w.heap.size + 2 := by rw [← hW]; simp
  have hB : Below w.heap.size w W := by rw [← hW]; exact (((Below.refl _ _).alloc (Nat.le_refl _) _).alloc (by simp) _)
  have hr : W.cell? ⟨w.heap.size, 0, none⟩ = some (.slice (some ⟨w.heap.size + 1, 0, none⟩) 0 0) := by rw [← hW]; exact za (zv _ _ _ 0) ((Below.refl _ _).alloc (Nat.le_refl _) _)
  have hs : ∀ j u, ([] : List Value)[j]? = some u → W.cell? ⟨w.heap.size + 1, j, none⟩ = some u := fun j u hu => by simp at hu
  clear hW
  exact bodyPost_ret (v := .agg #[.slice (some ⟨w.heap.size + 1, 0, none⟩) 0 0]) (by simp [results, Tryz.results101, go_sem, hr]) rfl ⟨⟨⟨[]⟩, [.slice (some ⟨w.heap.size + 1, 0, none⟩) 0 0], [], ⟨by simp, by simp⟩, rfl, Sg.close (x := ⟨[]⟩) (zav _), by simp⟩, hB⟩
 ·subst k0
  go_enter Tryz.func101, Tryz.ntmps101
  go_wp2_with fail
  generalize hW : (((w.alloc (.cells #[.slice (some ⟨w.heap.size + 1 + 1 + 1, 0, none⟩) 5 5] 25)).alloc (.cells #[.int .i64 0] 3)).alloc (.cells #[.int .i64 0, .int .i64 0] 3)).alloc (.cells #[.string ⟨#[97]⟩, .slice none 0 0, .int .i64 0, .string ⟨#[98]⟩, .slice none 0 0, .int .i64 0, .string ⟨#[99]⟩, .slice none 0 0, .int .i64 0, .string ⟨#[102]⟩, .slice (some ⟨w.heap.size + 1, 0, none⟩) 1 1, .int .i64 0, .string ⟨#[103]⟩, .slice (some ⟨w.heap.size + 1 + 1, 0, none⟩) 2 2, .int .i64 0] 102) = W
  have hz : W.heap.size = w.heap.size + 4 := by rw [← hW]; simp
  have hB : Below w.heap.size w W := by rw [← hW]; exact (((((Below.refl _ _).alloc (Nat.le_refl _) _).alloc (by simp) _).alloc (by simp <;> omega) _).alloc (by simp <;> omega) _)
  have hr : W.cell? ⟨w.heap.size, 0, none⟩ = some (.slice (some ⟨w.heap.size + 1 + 1 + 1, 0, none⟩) 5 5) := by rw [← hW]; exact za (zv _ _ _ 0) ((((Below.refl _ _).alloc (Nat.le_refl _) _).alloc (by simp) _).alloc (by simp <;> omega) _)
  have hs : ∀ j u, ([.string ⟨#[97]⟩, .slice none 0 0, .int .i64 0, .string ⟨#[98]⟩, .slice none 0 0, .int .i64 0, .string ⟨#[99]⟩, .slice none 0 0, .int .i64 0, .string ⟨#[102]⟩, .slice (some ⟨w.heap.size + 1, 0, none⟩) 1 1, .int .i64 0, .string ⟨#[103]⟩, .slice (some ⟨w.heap.size + 1 + 1, 0, none⟩) 2 2, .int .i64 0] : List Value)[j]? = some u → W.cell? ⟨w.heap.size + 1 + 1 + 1, j, none⟩ = some u := fun j u hu => by rw [← hW]; have h := zg (((w.alloc (.cells #[.slice (some ⟨w.heap.size + 1 + 1 + 1, 0, none⟩) 5 5] 25)).alloc (.cells #[.int .i64 0] 3)).alloc (.cells #[.int .i64 0, .int .i64 0] 3)) [.string ⟨#[97]⟩, .slice none 0 0, .int .i64 0, .string ⟨#[98]⟩, .slice none 0 0, .int .i64 0, .string ⟨#[99]⟩, .slice none 0 0, .int .i64 0, .string ⟨#[102]⟩, .slice (some ⟨w.heap.size + 1, 0, none⟩) 1 1, .int .i64 0, .string ⟨#[103]⟩, .slice (some ⟨w.heap.size + 1 + 1, 0, none⟩) 2 2, .int .i64 0] 102 j u hu; simpa using h
  have ha1 : ∀ j u, (([0] : List Int).map (Value.int .i64))[j]? = some u → W.cell? ⟨w.heap.size + 1, j, none⟩ = some u := fun j u hu => by rw [← hW]; exact za (by have h := zg (w.alloc (.cells #[.slice (some ⟨w.heap.size + 1 + 1 + 1, 0, none⟩) 5 5] 25)) [.int .i64 0] 3 j u (by simpa using hu); simpa using h) (((Below.refl _ _).alloc (Nat.le_refl _) _).alloc (by simp) _)
  have ha2 : ∀ j u, (([0, 0] : List Int).map (Value.int .i64))[j]? = some u → W.cell? ⟨w.heap.size + 1 + 1, j, none⟩ = some u := fun j u hu => by rw [← hW]; exact za (by have h := zg ((w.alloc (.cells #[.slice (some ⟨w.heap.size + 1 + 1 + 1, 0, none⟩) 5 5] 25)).alloc (.cells #[.int .i64 0] 3)) [.int .i64 0, .int .i64 0] 3 j u (by simpa using hu); simpa using h) ((Below.refl _ _).alloc (Nat.le_refl _) _)
  clear hW
  have hv := ((sym0 W ⟨#[97]⟩ 0 (by decide) (by omega)).app ((sym0 W ⟨#[98]⟩ 0 (by decide) (by omega)).app ((sym0 W ⟨#[99]⟩ 0 (by decide) (by omega)).app ((sym1 W ⟨#[102]⟩ [0] 0 (w.heap.size + 1) (by decide) (by omega) (by simp) (by simp) (by intro x hx; simp at hx; unfold I64; omega) (by omega) ha1).app ((sym1 W ⟨#[103]⟩ [0, 0] 0 (w.heap.size + 1 + 1) (by decide) (by omega) (by simp) (by simp) (by intro x hx; simp at hx; unfold I64; omega) (by omega) ha2).app (by simp only [RdVs]; exact ⟨trivial, trivial⟩ : RdVs W [] [] []))))))
  refine bodyPost_ret (v := .agg #[.slice (some ⟨w.heap.size + 1 + 1 + 1, 0, none⟩) 5 5]) (by simp [results, Tryz.results101, go_sem, hr]) rfl ⟨⟨⟨[⟨⟨#[97]⟩, [], 0⟩, ⟨⟨#[98]⟩, [], 0⟩, ⟨⟨#[99]⟩, [], 0⟩, ⟨⟨#[102]⟩, [0], 0⟩, ⟨⟨#[103]⟩, [0, 0], 0⟩]⟩, [.slice (some ⟨w.heap.size + 1 + 1 + 1, 0, none⟩) 5 5], (w.heap.size + 1 + 1 + 1) :: [w.heap.size + 1, w.heap.size + 1 + 1], ⟨by simp, by simp⟩, rfl, Sg.close (x := ⟨[⟨⟨#[97]⟩, [], 0⟩, ⟨⟨#[98]⟩, [], 0⟩, ⟨⟨#[99]⟩, [], 0⟩, ⟨⟨#[102]⟩, [0], 0⟩, ⟨⟨#[103]⟩, [0, 0], 0⟩]⟩) (zaY (k := 3) hs (by exact hv) (by simp) (by simp) (by simp) (by omega) (by omega)), by intro b hb; simp at hb; omega⟩, hB⟩
 ·subst k1
  go_enter Tryz.func101, Tryz.ntmps101
  go_wp2_with fail
  generalize hW : ((w.alloc (.cells #[.slice (some ⟨w.heap.size + 1 + 1, 0, none⟩) 5 5] 25)).alloc (.cells #[.int .i64 0] 3)).alloc (.cells #[.string ⟨#[97]⟩, .slice none 0 0, .int .i64 0, .string ⟨#[98]⟩, .slice none 0 0, .int .i64 0, .string ⟨#[104]⟩, .slice (some ⟨w.heap.size + 1, 0, none⟩) 1 1, .int .i64 1, .string ⟨#[120]⟩, .slice none 0 0, .int .i64 1, .string ⟨#[121]⟩, .slice none 0 0, .int .i64 1] 102) = W
  have hz : W.heap.size = w.heap.size + 3 := by rw [← hW]; simp
  have hB : Below w.heap.size w W := by rw [← hW]; exact ((((Below.refl _ _).alloc (Nat.le_refl _) _).alloc (by simp) _).alloc (by simp <;> omega) _)
  have hr : W.cell? ⟨w.heap.size, 0, none⟩ = some (.slice (some ⟨w.heap.size + 1 + 1, 0, none⟩) 5 5) := by rw [← hW]; exact za (zv _ _ _ 0) (((Below.refl _ _).alloc (Nat.le_refl _) _).alloc (by simp) _)
  have hs : ∀ j u, ([.string ⟨#[97]⟩, .slice none 0 0, .int .i64 0, .string ⟨#[98]⟩, .slice none 0 0, .int .i64 0, .string ⟨#[104]⟩, .slice (some ⟨w.heap.size + 1, 0, none⟩) 1 1, .int .i64 1, .string ⟨#[120]⟩, .slice none 0 0, .int .i64 1, .string ⟨#[121]⟩, .slice none 0 0, .int .i64 1] : List Value)[j]? = some u → W.cell? ⟨w.heap.size + 1 + 1, j, none⟩ = some u := fun j u hu => by rw [← hW]; have h := zg ((w.alloc (.cells #[.slice (some ⟨w.heap.size + 1 + 1, 0, none⟩) 5 5] 25)).alloc (.cells #[.int .i64 0] 3)) [.string ⟨#[97]⟩, .slice none 0 0, .int .i64 0, .string ⟨#[98]⟩, .slice none 0 0, .int .i64 0, .string ⟨#[104]⟩, .slice (some ⟨w.heap.size + 1, 0, none⟩) 1 1, .int .i64 1, .string ⟨#[120]⟩, .slice none 0 0, .int .i64 1, .string ⟨#[121]⟩, .slice none 0 0, .int .i64 1] 102 j u hu; simpa using h
  have ha1 : ∀ j u, (([0] : List Int).map (Value.int .i64))[j]? = some u → W.cell? ⟨w.heap.size + 1, j, none⟩ = some u := fun j u hu => by rw [← hW]; exact za (by have h := zg (w.alloc (.cells #[.slice (some ⟨w.heap.size + 1 + 1, 0, none⟩) 5 5] 25)) [.int .i64 0] 3 j u (by simpa using hu); simpa using h) ((Below.refl _ _).alloc (Nat.le_refl _) _)
  clear hW
  have hv := ((sym0 W ⟨#[97]⟩ 0 (by decide) (by omega)).app ((sym0 W ⟨#[98]⟩ 0 (by decide) (by omega)).app ((sym1 W ⟨#[104]⟩ [0] 1 (w.heap.size + 1) (by decide) (by omega) (by simp) (by simp) (by intro x hx; simp at hx; unfold I64; omega) (by omega) ha1).app ((sym0 W ⟨#[120]⟩ 1 (by decide) (by omega)).app ((sym0 W ⟨#[121]⟩ 1 (by decide) (by omega)).app (by simp only [RdVs]; exact ⟨trivial, trivial⟩ : RdVs W [] [] []))))))
  refine bodyPost_ret (v := .agg #[.slice (some ⟨w.heap.size + 1 + 1, 0, none⟩) 5 5]) (by simp [results, Tryz.results101, go_sem, hr]) rfl ⟨⟨⟨[⟨⟨#[97]⟩, [], 0⟩, ⟨⟨#[98]⟩, [], 0⟩, ⟨⟨#[104]⟩, [0], 1⟩, ⟨⟨#[120]⟩, [], 1⟩, ⟨⟨#[121]⟩, [], 1⟩]⟩, [.slice (some ⟨w.heap.size + 1 + 1, 0, none⟩) 5 5], (w.heap.size + 1 + 1) :: [w.heap.size + 1], ⟨by simp, by simp⟩, rfl, Sg.close (x := ⟨[⟨⟨#[97]⟩, [], 0⟩, ⟨⟨#[98]⟩, [], 0⟩, ⟨⟨#[104]⟩, [0], 1⟩, ⟨⟨#[120]⟩, [], 1⟩, ⟨⟨#[121]⟩, [], 1⟩]⟩) (zaY (k := 3) hs (by exact hv) (by simp) (by simp) (by simp) (by omega) (by omega)), by intro b hb; simp at hb; omega⟩, hB⟩
 ·subst k2
  go_enter Tryz.func101, Tryz.ntmps101
  go_wp2_with fail
  generalize hW : ((w.alloc (.cells #[.slice (some ⟨w.heap.size + 1 + 1, 0, none⟩) 4 4] 25)).alloc (.cells #[.int .i64 1] 3)).alloc (.cells #[.string ⟨#[107]⟩, .slice (some ⟨w.heap.size + 1, 0, none⟩) 1 1, .int .i64 1, .string ⟨#[120]⟩, .slice none 0 0, .int .i64 1, .string ⟨#[121]⟩, .slice none 0 0, .int .i64 1, .string ⟨#[122]⟩, .slice none 0 0, .int .i64 1] 102) = W
  have hz : W.heap.size = w.heap.size + 3 := by rw [← hW]; simp
  have hB : Below w.heap.size w W := by rw [← hW]; exact ((((Below.refl _ _).alloc (Nat.le_refl _) _).alloc (by simp) _).alloc (by simp <;> omega) _)
  have hr : W.cell? ⟨w.heap.size, 0, none⟩ = some (.slice (some ⟨w.heap.size + 1 + 1, 0, none⟩) 4 4) := by rw [← hW]; exact za (zv _ _ _ 0) (((Below.refl _ _).alloc (Nat.le_refl _) _).alloc (by simp) _)
  have hs : ∀ j u, ([.string ⟨#[107]⟩, .slice (some ⟨w.heap.size + 1, 0, none⟩) 1 1, .int .i64 1, .string ⟨#[120]⟩, .slice none 0 0, .int .i64 1, .string ⟨#[121]⟩, .slice none 0 0, .int .i64 1, .string ⟨#[122]⟩, .slice none 0 0, .int .i64 1] : List Value)[j]? = some u → W.cell? ⟨w.heap.size + 1 + 1, j, none⟩ = some u := fun j u hu => by rw [← hW]; have h := zg ((w.alloc (.cells #[.slice (some ⟨w.heap.size + 1 + 1, 0, none⟩) 4 4] 25)).alloc (.cells #[.int .i64 1] 3)) [.string ⟨#[107]⟩, .slice (some ⟨w.heap.size + 1, 0, none⟩) 1 1, .int .i64 1, .string ⟨#[120]⟩, .slice none 0 0, .int .i64 1, .string ⟨#[121]⟩, .slice none 0 0, .int .i64 1, .string ⟨#[122]⟩, .slice none 0 0, .int .i64 1] 102 j u hu; simpa using h
  have ha1 : ∀ j u, (([1] : List Int).map (Value.int .i64))[j]? = some u → W.cell? ⟨w.heap.size + 1, j, none⟩ = some u := fun j u hu => by rw [← hW]; exact za (by have h := zg (w.alloc (.cells #[.slice (some ⟨w.heap.size + 1 + 1, 0, none⟩) 4 4] 25)) [.int .i64 1] 3 j u (by simpa using hu); simpa using h) ((Below.refl _ _).alloc (Nat.le_refl _) _)
  clear hW
  have hv := ((sym1 W ⟨#[107]⟩ [1] 1 (w.heap.size + 1) (by decide) (by omega) (by simp) (by simp) (by intro x hx; simp at hx; unfold I64; omega) (by omega) ha1).app ((sym0 W ⟨#[120]⟩ 1 (by decide) (by omega)).app ((sym0 W ⟨#[121]⟩ 1 (by decide) (by omega)).app ((sym0 W ⟨#[122]⟩ 1 (by decide) (by omega)).app (by simp only [RdVs]; exact ⟨trivial, trivial⟩ : RdVs W [] [] [])))))
  refine bodyPost_ret (v := .agg #[.slice (some ⟨w.heap.size + 1 + 1, 0, none⟩) 4 4]) (by simp [results, Tryz.results101, go_sem, hr]) rfl ⟨⟨⟨[⟨⟨#[107]⟩, [1], 1⟩, ⟨⟨#[120]⟩, [], 1⟩, ⟨⟨#[121]⟩, [], 1⟩, ⟨⟨#[122]⟩, [], 1⟩]⟩, [.slice (some ⟨w.heap.size + 1 + 1, 0, none⟩) 4 4], (w.heap.size + 1 + 1) :: [w.heap.size + 1], ⟨by simp, by simp⟩, rfl, Sg.close (x := ⟨[⟨⟨#[107]⟩, [1], 1⟩, ⟨⟨#[120]⟩, [], 1⟩, ⟨⟨#[121]⟩, [], 1⟩, ⟨⟨#[122]⟩, [], 1⟩]⟩) (zaY (k := 3) hs (by exact hv) (by simp) (by simp) (by simp) (by omega) (by omega)), by intro b hb; simp at hb; omega⟩, hB⟩
 ·subst k3
  go_enter Tryz.func101, Tryz.ntmps101
  go_wp2_with fail
  generalize hW : (((w.alloc (.cells #[.slice (some ⟨w.heap.size + 1 + 1 + 1, 0, none⟩) 5 5] 25)).alloc (.cells #[.int .i64 1] 3)).alloc (.cells #[.int .i64 1, .int .i64 0] 3)).alloc (.cells #[.string ⟨#[97]⟩, .slice none 0 0, .int .i64 0, .string ⟨#[117]⟩, .slice (some ⟨w.heap.size + 1, 0, none⟩) 1 1, .int .i64 0, .string ⟨#[118]⟩, .slice (some ⟨w.heap.size + 1 + 1, 0, none⟩) 2 2, .int .i64 1, .string ⟨#[120]⟩, .slice none 0 0, .int .i64 1, .string ⟨#[121]⟩, .slice none 0 0, .int .i64 1] 102) = W
  have hz : W.heap.size = w.heap.size + 4 := by rw [← hW]; simp
  have hB : Below w.heap.size w W := by rw [← hW]; exact (((((Below.refl _ _).alloc (Nat.le_refl _) _).alloc (by simp) _).alloc (by simp <;> omega) _).alloc (by simp <;> omega) _)
  have hr : W.cell? ⟨w.heap.size, 0, none⟩ = some (.slice (some ⟨w.heap.size + 1 + 1 + 1, 0, none⟩) 5 5) := by rw [← hW]; exact za (zv _ _ _ 0) ((((Below.refl _ _).alloc (Nat.le_refl _) _).alloc (by simp) _).alloc (by simp <;> omega) _)
  have hs : ∀ j u, ([.string ⟨#[97]⟩, .slice none 0 0, .int .i64 0, .string ⟨#[117]⟩, .slice (some ⟨w.heap.size + 1, 0, none⟩) 1 1, .int .i64 0, .string ⟨#[118]⟩, .slice (some ⟨w.heap.size + 1 + 1, 0, none⟩) 2 2, .int .i64 1, .string ⟨#[120]⟩, .slice none 0 0, .int .i64 1, .string ⟨#[121]⟩, .slice none 0 0, .int .i64 1] : List Value)[j]? = some u → W.cell? ⟨w.heap.size + 1 + 1 + 1, j, none⟩ = some u := fun j u hu => by rw [← hW]; have h := zg (((w.alloc (.cells #[.slice (some ⟨w.heap.size + 1 + 1 + 1, 0, none⟩) 5 5] 25)).alloc (.cells #[.int .i64 1] 3)).alloc (.cells #[.int .i64 1, .int .i64 0] 3)) [.string ⟨#[97]⟩, .slice none 0 0, .int .i64 0, .string ⟨#[117]⟩, .slice (some ⟨w.heap.size + 1, 0, none⟩) 1 1, .int .i64 0, .string ⟨#[118]⟩, .slice (some ⟨w.heap.size + 1 + 1, 0, none⟩) 2 2, .int .i64 1, .string ⟨#[120]⟩, .slice none 0 0, .int .i64 1, .string ⟨#[121]⟩, .slice none 0 0, .int .i64 1] 102 j u hu; simpa using h
  have ha1 : ∀ j u, (([1] : List Int).map (Value.int .i64))[j]? = some u → W.cell? ⟨w.heap.size + 1, j, none⟩ = some u := fun j u hu => by rw [← hW]; exact za (by have h := zg (w.alloc (.cells #[.slice (some ⟨w.heap.size + 1 + 1 + 1, 0, none⟩) 5 5] 25)) [.int .i64 1] 3 j u (by simpa using hu); simpa using h) (((Below.refl _ _).alloc (Nat.le_refl _) _).alloc (by simp) _)
  have ha2 : ∀ j u, (([1, 0] : List Int).map (Value.int .i64))[j]? = some u → W.cell? ⟨w.heap.size + 1 + 1, j, none⟩ = some u := fun j u hu => by rw [← hW]; exact za (by have h := zg ((w.alloc (.cells #[.slice (some ⟨w.heap.size + 1 + 1 + 1, 0, none⟩) 5 5] 25)).alloc (.cells #[.int .i64 1] 3)) [.int .i64 1, .int .i64 0] 3 j u (by simpa using hu); simpa using h) ((Below.refl _ _).alloc (Nat.le_refl _) _)
  clear hW
  have hv := ((sym0 W ⟨#[97]⟩ 0 (by decide) (by omega)).app ((sym1 W ⟨#[117]⟩ [1] 0 (w.heap.size + 1) (by decide) (by omega) (by simp) (by simp) (by intro x hx; simp at hx; unfold I64; omega) (by omega) ha1).app ((sym1 W ⟨#[118]⟩ [1, 0] 1 (w.heap.size + 1 + 1) (by decide) (by omega) (by simp) (by simp) (by intro x hx; simp at hx; unfold I64; omega) (by omega) ha2).app ((sym0 W ⟨#[120]⟩ 1 (by decide) (by omega)).app ((sym0 W ⟨#[121]⟩ 1 (by decide) (by omega)).app (by simp only [RdVs]; exact ⟨trivial, trivial⟩ : RdVs W [] [] []))))))
  refine bodyPost_ret (v := .agg #[.slice (some ⟨w.heap.size + 1 + 1 + 1, 0, none⟩) 5 5]) (by simp [results, Tryz.results101, go_sem, hr]) rfl ⟨⟨⟨[⟨⟨#[97]⟩, [], 0⟩, ⟨⟨#[117]⟩, [1], 0⟩, ⟨⟨#[118]⟩, [1, 0], 1⟩, ⟨⟨#[120]⟩, [], 1⟩, ⟨⟨#[121]⟩, [], 1⟩]⟩, [.slice (some ⟨w.heap.size + 1 + 1 + 1, 0, none⟩) 5 5], (w.heap.size + 1 + 1 + 1) :: [w.heap.size + 1, w.heap.size + 1 + 1], ⟨by simp, by simp⟩, rfl, Sg.close (x := ⟨[⟨⟨#[97]⟩, [], 0⟩, ⟨⟨#[117]⟩, [1], 0⟩, ⟨⟨#[118]⟩, [1, 0], 1⟩, ⟨⟨#[120]⟩, [], 1⟩, ⟨⟨#[121]⟩, [], 1⟩]⟩) (zaY (k := 3) hs (by exact hv) (by simp) (by simp) (by simp) (by omega) (by omega)), by intro b hb; simp at hb; omega⟩, hB⟩
end Go.Proofs.YtlefdhhnlbpbkaaGreat
end
