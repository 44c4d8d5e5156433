/- Parts of the proof: Bx9. -/
import Derived.Test.YtoehhbkhdddeeaaDoorPl17
import Derived.Test.YtoehhbkhdddeeaaDoorPl15
import Derived.Test.YtoehhbkhdddeeaaDoorPl11
section
namespace Go.Proofs.YtoehhbkhdddeeaaDoor
open Go Go.RowKit
set_option linter.unusedVariables false
set_option linter.unusedSimpArgs false
set_option maxRecDepth 100000
set_option maxHeartbeats 16000000
/-- Block b holds vs, and may be written. -/
def Box (vs : List Value) (b : Nat) (w : World) : Prop := b < w.heap.size ∧ (∀ j u, vs[j]? = some u → w.cell? ⟨b, j, none⟩ = some u) ∧ ∀ j, w.frozen? ⟨b, j, none⟩ = false
theorem Box.new (w : World) (vs : List Value) (T : TypeId) : Box vs w.heap.size (w.alloc (.cells vs.toArray T)) := ⟨by simp, fun j u hu => zm w vs T j u hu, fun j => zZ _ _ _ _⟩
theorem Box.below {w w' : World} {b : Nat} {vs : List Value} (h : Box vs b w) (hb : Below w.heap.size w w') : Box vs b w' :=
 ⟨zcc h.1 hb.size, fun j u hu => za (h.2.1 j u hu) hb, fun j => (zd (hb.block b h.1)).trans (h.2.2 j)⟩
theorem Box.alloc {w : World} {b : Nat} {vs : List Value} (h : Box vs b w) (o : Obj) : Box vs b (w.alloc o) := h.below (zc w o)
theorem Box.drew {w : World} {b : Nat} {vs : List Value} (h : Box vs b w) : Box vs b w.drew := h
theorem Box.only {w w' : World} {rb b : Nat} {vs : List Value} (h : Box vs b w) (ho : Only [rb] w w') (hn : b ≠ rb) : Box vs b w' :=
 ⟨zcc h.1 ho.size, fun j u hu => ho.cellk (h.2.1 j u hu) hn, fun j => ho.free (h.2.2 j) h.1 hn⟩
theorem Box.put {u : World} {b : Nat} {vs : List Value} (h : Box vs b u) {k : Nat} (hk : k < vs.length) (v : Value) : Box (vs.set k v) b (u.setCell ⟨b, k, none⟩ v) := by
 obtain ⟨h2, h3, h4⟩ := h
 refine ⟨by simpa [World.setCell] using h2, fun j x hx => ?_, fun j => by simp [go_sem, h4 j]⟩
 by_cases e : j = k
 ·subst e
  rw [List.getElem?_set_self hk] at hx
  obtain rfl := Option.some.inj hx
  exact World.cell?_setCell_same u ⟨b, j, none⟩ v (h3 j _ (List.getElem?_eq_getElem hk))
 ·rw [List.getElem?_set_ne (fun h => e h.symm)] at hx
  exact (World.cell?_setCell_other _ _ _ _ (by intro h; simp only [Addr.mk.injEq] at h; omega)).trans (h3 j x hx)
theorem Box.sets_other {u : World} {lb b : Nat} {vs : List Value} (h : Box vs lb u) (hne : lb < b ∨ b < lb) (ups : List (Nat × Value)) : Box vs lb (zi b ups u) := by
 have hL := Loc.sets (b := b) (lo := b) (hi := b + 1) (Nat.le_refl _) (by omega) ups (Loc.refl _ _ u)
 have hk := hL.block lb h.1 (by omega)
 exact ⟨zcc h.1 hL.size, fun j x hx => zl hk (h.2.1 j x hx), fun j => zO hk (h.2.2 j)⟩
/-- The values with their places. -/
def zU : Nat → List Value → List (Nat × Value)
 | _, [] => []
 | k, v :: r => (k, v) :: zU (k + 1) r
theorem Box.puts_from : ∀ (vs done old : List Value) {u : World} {b : Nat}, old.length = vs.length → Box (done ++ old) b u → Box (done ++ vs) b (zi b (zU done.length vs) u)
 | [], done, old, u, b, hl, h => by
  obtain rfl : old = [] := List.eq_nil_of_length_eq_zero hl
  exact h
 | v :: r, done, [], u, b, hl, h => by simp at hl
 | v :: r, done, o :: old, u, b, hl, h => by
  have h1 := h.put (k := done.length) (by simp) v
  rw [List.set_append_right _ _ (Nat.le_refl _), Nat.sub_self, zb7] at h1
  have h2 := Box.puts_from r (done ++ [v]) old (by simpa using hl) (by simpa using h1)
  simpa [zi, zU] using h2
theorem Box.puts {u : World} {b : Nat} {old : List Value} (vs : List Value) (h : Box old b u) (hl : old.length = vs.length) : Box vs b (zi b (zU 0 vs) u) := by
 have h1 := Box.puts_from vs [] old hl (by simpa using h)
 simpa using h1
theorem zat {w : World} {B b : Nat} (hb : B ≤ b) : ∀ (ups : List (Nat × Value)) {u : World}, Below B w u → Below B w (zi b ups u)
 | [], _, h => h
 | p :: r, _, h => zat hb r (h.setCell hb _)
/-- All but the blocks A and B as it was. -/
def Same2 (A B : Nat) (w w' : World) : Prop := ∀ b, b < w.heap.size → b ≠ A → b ≠ B → w'.heap[b]? = w.heap[b]?
theorem Same2.refl (A B : Nat) (w : World) : Same2 A B w w := fun _ _ _ _ => rfl
theorem Same2.sets {A B b : Nat} {w : World} (hb : b = A ∨ b = B) : ∀ (ups : List (Nat × Value)) {u : World}, Same2 A B w u → Same2 A B w (zi b ups u)
 | [], _, h => h
 | p :: r, u, h => Same2.sets hb r (fun q h1 h2 h3 => (Below.heap_setCell u _ _ q (fun e : q = b => by rcases hb with hb | hb <;> omega)).trans (h q h1 h2 h3))
theorem Same2.trans {A B : Nat} {w w1 w2 : World} (h : Same2 A B w w1) (h' : Same2 A B w1 w2) (hs : w.heap.size ≤ w1.heap.size) : Same2 A B w w2 := fun b h1 h2 h3 => (h' b (zcc h1 hs) h2 h3).trans (h b h1 h2 h3)
theorem Rd.same2 {A B : Nat} {w w' : World} {d : CD} {v : Value} {f : List Nat} (h : Rd w d v f) (hs : Same2 A B w w') (hf : ∀ b ∈ f, b ≠ A ∧ b ≠ B) : Rd w' d v f := h.same d (fun b hb => hs b (h.lt d b hb) (hf b hb).1 (hf b hb).2)
theorem RdVs.same2 {A B : Nat} {w w' : World} {d : List CD} {v : List Value} {f : List Nat} (h : RdVs w d v f) (hs : Same2 A B w w') (hf : ∀ b ∈ f, b ≠ A ∧ b ≠ B) : RdVs w' d v f := h.same d (fun b hb => hs b (h.lt d b hb) (hf b hb).1 (hf b hb).2)
end Go.Proofs.YtoehhbkhdddeeaaDoor
end
