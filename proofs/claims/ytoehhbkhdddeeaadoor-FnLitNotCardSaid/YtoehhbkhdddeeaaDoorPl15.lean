/- Parts of the proof: ExTo. -/
import Derived.Deep.Cut
import Derived.Test.YtoehhbkhdddeeaaDoorPl10
namespace Go.Proofs.YtoehhbkhdddeeaaDoor
open Go Go.RowKit
set_option linter.unusedVariables false
set_option linter.unusedSimpArgs false
set_option maxHeartbeats 800000
theorem nofp_int {n : Int} : NoFp [.int n] := fun w vs f h => by obtain ⟨v, rfl, h'⟩ := RdVs.one_inv h; exact (zn h').2.2
def ToOut (d : CD) (w : World) (e : Ending) (w' : World) : Prop := ∃ kv fp, e = .returned kv ∧ Rd w' d kv fp ∧ Fresh w.heap.size w' fp ∧ Below w.heap.size w w'
def zbQ (ds : List CD) (w : World) (e : Ending) (w' : World) : Prop := ∃ vs fp, e = .returned (.agg vs.toArray) ∧ RdVs w' ds vs fp ∧ Fresh w.heap.size w' fp ∧ Below w.heap.size w w'
theorem cells_set {w : World} {b : Nat} {cs : Array Value} (h : ∀ j, w.cell? ⟨b, j, none⟩ = cs[j]?) (i : Nat) (v : Value) (hi : i < cs.size := by simp) : ∀ j, (w.setCell ⟨b, i, none⟩ v).cell? ⟨b, j, none⟩ = (cs.setIfInBounds i v)[j]? := by
 intro j
 by_cases hij : i = j
 ·subst hij
  rw [World.cell?_setCell_same w _ v ((h i).trans (Array.getElem?_eq_getElem hi)), Array.getElem?_setIfInBounds]
  simp [hi]
 ·rw [World.cell?_setCell_other w _ _ v (by simp [hij]), h j, Array.getElem?_setIfInBounds]
  simp [hij]
theorem zaY {w : World} {b b' : Nat} {cs : Array Value} (h : ∀ j, w.cell? ⟨b, j, none⟩ = cs[j]?) (i : Nat) (v : Value) (hne : b' ≠ b) : ∀ j, (w.setCell ⟨b', i, none⟩ v).cell? ⟨b, j, none⟩ = cs[j]? :=
 fun j => (World.cell?_setCell_other w _ _ v (by simp [hne])).trans (h j)
theorem ze {w1 w2 : World} {b : Nat} (h : ∀ j, w1.frozen? ⟨b, j, none⟩ = false) (hl : b < w1.heap.size) (hb : Below w1.heap.size w1 w2) : ∀ j, w2.frozen? ⟨b, j, none⟩ = false :=
 fun j => (hb.frozen (p := ⟨b, j, none⟩) hl).trans (h j)
theorem free_set {w : World} {b : Nat} (h : ∀ j, w.frozen? ⟨b, j, none⟩ = false) (a : Addr) (v : Value) : ∀ j, (w.setCell a v).frozen? ⟨b, j, none⟩ = false := fun j => by rw [World.frozen?_setCell]; exact h j
/-- From w to w' of what was there the blocks from lo to hi alone have turned. -/
structure Loc (lo hi : Nat) (w w' : World) : Prop where
 os : w'.os = w.os
 tape : w'.tape = w.tape
 output : w'.output = w.output
 size : w.heap.size ≤ w'.heap.size
 block : ∀ k, k < w.heap.size → (k < lo ∨ hi ≤ k) → w'.heap[k]? = w.heap[k]?
theorem Loc.refl (lo hi : Nat) (w : World) : Loc lo hi w w := ⟨rfl, rfl, rfl, Nat.le_refl _, fun _ _ _ => rfl⟩
theorem Loc.set {lo hi : Nat} {w w' : World} (h : Loc lo hi w w') {b i : Nat} {v : Value} (h1 : lo ≤ b) (h2 : b < hi) : Loc lo hi w (w'.setCell ⟨b, i, none⟩ v) :=
 ⟨h.os, h.tape, h.output, by simpa [World.setCell] using h.size, fun k hk hn => (Below.heap_setCell _ _ _ _ (by simp only; omega)).trans (h.block k hk hn)⟩
theorem Loc.below {lo hi : Nat} {w w1 w2 : World} (h : Loc lo hi w w1) (hb : Below w1.heap.size w1 w2) : Loc lo hi w w2 :=
 ⟨hb.os.trans h.os, hb.tape.trans h.tape, hb.output.trans h.output, Nat.le_trans h.size hb.size, fun k hk hn => (hb.block k (zcc hk h.size)).trans (h.block k hk hn)⟩
theorem Loc.toBelow {lo hi : Nat} {w w1 : World} (h : Loc lo hi w w1) {B : Nat} (hB : B ≤ w.heap.size) (hl : B ≤ lo) : Below B w w1 :=
 ⟨h.os, h.tape, h.output, h.size, fun k hk => h.block k (by omega) (.inl (by omega))⟩
theorem Loc.same {lo hi : Nat} {w w1 w0 : World} (h : Loc lo hi w w1) {f : List Nat} (hf : Fresh hi w f) : SameOn f w w1 := fun b hb => h.block b (hf.lt b hb) (.inr (hf.2 b hb).1)
def zi (b : Nat) : List (Nat × Value) → World → World
 | [], w => w
 | u :: r, w => zi b r (w.setCell ⟨b, u.1, none⟩ u.2)
def zaq : List (Nat × Value) → List Value → List Value
 | [], l => l
 | u :: r, l => zaq r (l.set u.1 u.2)
theorem zI {b : Nat} : ∀ (ups : List (Nat × Value)) {w : World} {l : List Value}, (∀ j, w.cell? ⟨b, j, none⟩ = (l.toArray)[j]?) → (∀ u ∈ ups, u.1 < l.length) → ∀ j, (zi b ups w).cell? ⟨b, j, none⟩ = ((zaq ups l).toArray)[j]?
 | [], _, _, h, _ => h
 | u :: r, w, l, h, hu => by
  have h1 := cells_set h u.1 u.2 (by simpa using hu u (List.mem_cons_self ..))
  rw [zb6] at h1
  exact zI r h1 (fun x hx => by rw [List.length_set]; exact hu x (List.mem_cons_of_mem _ hx))
theorem zai {b b' : Nat} {cs : Array Value} (hne : b' ≠ b) : ∀ (ups : List (Nat × Value)) {w : World}, (∀ j, w.cell? ⟨b, j, none⟩ = cs[j]?) → ∀ j, (zi b' ups w).cell? ⟨b, j, none⟩ = cs[j]?
 | [], _, h => h
 | u :: r, w, h => zai hne r (zaY h u.1 u.2 hne)
theorem zak {b b' : Nat} : ∀ (ups : List (Nat × Value)) {w : World}, (∀ j, w.frozen? ⟨b, j, none⟩ = false) → ∀ j, (zi b' ups w).frozen? ⟨b, j, none⟩ = false
 | [], _, h => h
 | u :: r, w, h => zak r (free_set h _ _)
theorem Loc.sets {lo hi b : Nat} {w : World} (h1 : lo ≤ b) (h2 : b < hi) : ∀ (ups : List (Nat × Value)) {w' : World}, Loc lo hi w w' → Loc lo hi w (zi b ups w')
 | [], _, h => h
 | u :: r, w', h => Loc.sets h1 h2 r (h.set h1 h2)
theorem zx : SlTy Tryd.prog 26 3 (.int .i64 0) 1 8 := ⟨Tryd.underlying26, by kernel_rfl, rfl, by omega⟩
theorem slTySymS : SlTy Tryd.prog 38 107 (.agg #[.string ByteArray.empty, .slice none 0 0, .int .i64 0]) 3 48 := ⟨Tryd.underlying38, by kernel_rfl, rfl, by omega⟩
end Go.Proofs.YtoehhbkhdddeeaaDoor
