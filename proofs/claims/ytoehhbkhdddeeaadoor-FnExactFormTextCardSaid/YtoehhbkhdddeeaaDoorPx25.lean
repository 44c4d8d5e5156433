/- Parts of the proof: TermP Eqs Rdr3 Rdr4 Rdr5. -/
import Derived.Deep.RegionLaw
import Derived.Test.YtoehhbkhdddeeaaDoorPx14
import Derived.Deep.RegionHeld3
import Derived.Test.YtoehhbkhdddeeaaDoorPx24
import Derived.Test.YtoehhbkhdddeeaaDoorPx16
import Derived.Test.YtoehhbkhdddeeaaDoorPx5
import Derived.Test.YtoehhbkhdddeeaaDoorPx12
import Derived.Test.YtoehhbkhdddeeaaDoorPx13
import Derived.Deep.CutRange
section
namespace Go.Proofs.YtoehhbkhdddeeaaDoor
open Go Go.RowKit
set_option linter.unusedVariables false
set_option linter.unusedSimpArgs false
set_option maxRecDepth 100000
set_option maxHeartbeats 16000000
def Eqn.okB (s : Sg) (e : Eqn) : Bool := match e.a.tsrt s, e.b.tsrt s with | some m, some n => m == n | _, _ => false
theorem zb3 (w : World) (vs : List Value) (T : Nat) (j : Nat) (u : Value) (h : vs[j]? = some u) : (w.alloc (.cells vs.toArray T)).cell? ⟨w.heap.size, j, none⟩ = some u := by
 rw [zu]; simpa using h
theorem Rdr.set {w : World} {rb p b i : Nat} {u : Value} (h : Rdr w rb p) (hb : rb < b) : Rdr (w.setCell ⟨b, i, none⟩ u) rb p := h.same (fun q hq => Below.heap_setCell _ _ _ _ (by show q ≠ b; omega))
theorem Only.free {w w' : World} {rb b i : Nat} {f : Bool} (h : Only [rb] w w') (hc : w.frozen? ⟨b, i, none⟩ = f) (hb : b < w.heap.size) (hne : b ≠ rb) : w'.frozen? ⟨b, i, none⟩ = f := zbZ (h.block b hb (by simpa using hne)) hc
/-- Block lb, made after the reader, holds vs, and may be written. -/
def Lst (rb : Nat) (vs : List Value) (lb : Nat) (w : World) : Prop := rb < lb ∧ lb < w.heap.size ∧ (∀ j u, vs[j]? = some u → w.cell? ⟨lb, j, none⟩ = some u) ∧ ∀ j, w.frozen? ⟨lb, j, none⟩ = false
theorem Lst.below {w w' : World} {rb lb : Nat} {vs : List Value} (h : Lst rb vs lb w) (hb : Below w.heap.size w w') : Lst rb vs lb w' :=
 ⟨h.1, zcj h.2.1 hb.size, fun j u hu => zc (h.2.2.1 j u hu) hb, fun j => (zL (hb.block lb h.2.1)).trans (h.2.2.2 j)⟩
theorem Lst.alloc {w : World} {rb lb : Nat} {vs : List Value} (h : Lst rb vs lb w) (o : Obj) : Lst rb vs lb (w.alloc o) := h.below (za w o)
theorem Lst.drew {w : World} {rb lb : Nat} {vs : List Value} (h : Lst rb vs lb w) : Lst rb vs lb w.drew := h
end Go.Proofs.YtoehhbkhdddeeaaDoor
end
