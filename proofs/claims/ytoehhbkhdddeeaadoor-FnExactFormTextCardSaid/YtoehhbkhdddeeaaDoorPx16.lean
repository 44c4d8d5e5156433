/- Parts of the proof: Rdr Rdr2. -/
import Derived.Deep.QuietTactic
import Derived.BigQuiet
import Derived.Test.YtoehhbkhdddeeaaDoorPx8
import Derived.Test.YtoehhbkhdddeeaaDoorPx9
section
namespace Go.Proofs.YtoehhbkhdddeeaaDoor
open Go Go.RowKit
set_option linter.unusedVariables false
set_option linter.unusedSimpArgs false
set_option maxRecDepth 100000
set_option maxHeartbeats 16000000
/-- A reader in block rb, whose place is at most p: its bytes lie in another block. -/
def Rdr (w : World) (rb p : Nat) : Prop := ∃ (a : Option Addr) (n cap q T : Nat), q ≤ p ∧ n ≤ 2000 ∧ w.heap[rb]? = some (.cells #[.slice a n cap, .int .i64 q] T (0, 0)) ∧
 (n = 0 ∨ ∃ b off, a = some ⟨b, off, none⟩ ∧ b < rb ∧ ∀ i : Nat, i < n → ∃ u : Nat, u ≤ 255 ∧ w.cell? ⟨b, off + i, none⟩ = some (.int .u8 u))
theorem Rdr.drewN {w : World} {rb p k : Nat} (h : Rdr w rb p) : Rdr (w.drewN k) rb p := h
theorem Only.drewN {w w' : World} {fp : List Nat} (h : Only fp w w') (k : Nat) : Only fp w (w'.drewN k) := ⟨h.os, h.tape, h.output, h.size, h.block⟩
theorem Only.cell {w w' : World} {rb b i : Nat} (h : Only [rb] w w') (hb : b < w.heap.size) (hne : b ≠ rb) : w'.cell? ⟨b, i, none⟩ = w.cell? ⟨b, i, none⟩ := World.cell?_of_block (h.block b hb (by simpa using hne))
theorem Only.alloc {w w' : World} {rb : Nat} (h : Only [rb] w w') (o : Obj) : Only [rb] w (w'.alloc o) :=
 h.trans (Only.below (za w' o))
theorem Rdr.same {w w' : World} {rb p : Nat} (h : Rdr w rb p) (hs : ∀ b, b ≤ rb → w'.heap[b]? = w.heap[b]?) : Rdr w' rb p := by
 obtain ⟨a, n, cap, q, T, h1, h2, h3, h4⟩ := h
 refine ⟨a, n, cap, q, T, h1, h2, (hs rb (Nat.le_refl _)).trans h3, ?_⟩
 rcases h4 with h4 | ⟨b, off, r1, r2, r4⟩
 ·exact .inl h4
 ·refine .inr ⟨b, off, r1, r2, fun i hi => ?_⟩
  obtain ⟨u, hu, hc⟩ := r4 i hi
  exact ⟨u, hu, (World.cell?_of_block (w := w) (hs b (by omega))).trans hc⟩
theorem Rdr.lt {w : World} {rb p : Nat} (h : Rdr w rb p) : rb < w.heap.size := by
 obtain ⟨a, n, cap, q', T, h1, h2, h3, h4⟩ := h; exact (Array.getElem?_eq_some_iff.1 h3).1
theorem Rdr.below {w w' : World} {rb p : Nat} (h : Rdr w rb p) (hb : Below w.heap.size w w') : Rdr w' rb p := h.same (fun b hl => hb.block b (by have := h.lt; omega))
theorem Rdr.alloc {w : World} {rb p : Nat} (h : Rdr w rb p) (o : Obj) : Rdr (w.alloc o) rb p := h.below (za w o)
theorem Rdr.mono {w : World} {rb p q : Nat} (h : Rdr w rb p) (hp : p ≤ q) : Rdr w rb q := by
 obtain ⟨a, n, cap, q', T, h1, h2⟩ := h; exact ⟨a, n, cap, q', T, by omega, h2⟩
/-- What an append leaves of an older frame. -/
theorem Only.grown {a w w' : World} {rb : Nat} {r : Option Nat} (h : Only [rb] a w) (hg : w.grownBy w' r) (hr : ∀ b, r = some b → a.heap.size ≤ b) : Only [rb] a w' :=
 ⟨hg.os.trans h.os, hg.tape.trans h.tape, hg.output.trans h.output, Nat.le_trans h.size hg.size, fun b hb hn => (hg.block b (zcj hb h.size) (fun e => by have := hr b e.symm; omega)).trans (h.block b hb hn)⟩
theorem Rdr.grown {w w' : World} {rb p : Nat} {r : Option Nat} (h : Rdr w rb p) (hg : w.grownBy w' r) (hr : ∀ b, r = some b → rb < b) : Rdr w' rb p :=
 h.same (fun b hb => hg.block b (by have := h.lt; omega) (fun e => by have := hr b e.symm; omega))
/-- Bytes that came in. -/
def Byts (w : World) (v : Value) : Prop := ∃ a n cap, v = .slice a n cap ∧ n ≤ cap ∧ cap ≤ 9223372036854775807 ∧ (n = 0 ∨ ∃ b off, a = some ⟨b, off, none⟩ ∧ b < w.heap.size ∧ ∀ i : Nat, i < n → ∃ u : Nat, u ≤ 255 ∧ w.cell? ⟨b, off + i, none⟩ = some (.int .u8 u))
theorem Byts.below {w w' : World} {v : Value} (h : Byts w v) (hb : Below w.heap.size w w') : Byts w' v := by
 obtain ⟨a, n, cap, h1, h2, h3, h4⟩ := h
 refine ⟨a, n, cap, h1, h2, h3, ?_⟩
 rcases h4 with h4 | ⟨b, off, r1, r3, r4⟩
 ·exact .inl h4
 ·refine .inr ⟨b, off, r1, by have := hb.size; omega, fun i hi => ?_⟩
  obtain ⟨u, hu, hc⟩ := r4 i hi
  exact ⟨u, hu, (World.cell?_of_block (w := w) (hb.block b r3)).trans hc⟩
end Go.Proofs.YtoehhbkhdddeeaaDoor
end
