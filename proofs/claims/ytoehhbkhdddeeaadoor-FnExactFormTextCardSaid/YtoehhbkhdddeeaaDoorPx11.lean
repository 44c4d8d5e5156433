/- Parts of the proof: ExLib. -/
import Derived.Lib.QuietBelow
import Derived.Test.YtoehhbkhdddeeaaDoorPx8
import Derived.Test.YtoehhbkhdddeeaaDoorPx5
import Derived.Test.YtoehhbkhdddeeaaDoorPx10
section
namespace Go.Proofs.YtoehhbkhdddeeaaDoor
open Go Go.RowKit
set_option linter.unusedVariables false
set_option linter.unusedSimpArgs false
set_option maxRecDepth 100000
set_option maxHeartbeats 16000000
mutual
def wtC : CD → Nat
 | .str s => s.size
 | .sl es => es.length + wtR es
 | _ => 0
def wtR : List (List CD) → Nat
 | [] => 0
 | e :: es => wtV e + wtR es
def wtV : List CD → Nat
 | [] => 0
 | d :: ds => wtC d + wtV ds
end
mutual
def ndC : CD → Nat
 | .sl es => 1 + ndR es
 | _ => 1
def ndR : List (List CD) → Nat
 | [] => 0
 | e :: es => 1 + ndV e + ndR es
def ndV : List CD → Nat
 | [] => 0
 | d :: ds => ndC d + ndV ds
end
theorem zq : ∀ (a b : List CD), wtV (a ++ b) = wtV a + wtV b
 | [], b => by simp [wtV]
 | d :: ds, b => by simp only [List.cons_append, wtV, zq ds b]; omega
theorem zaq : ∀ (a b : List (List CD)), wtR (a ++ b) = wtR a + wtR b
 | [], b => by simp [wtR]
 | d :: ds, b => by simp only [List.cons_append, wtR, zaq ds b]; omega
theorem zar : ∀ {es : List (List CD)} {e : List CD}, e ∈ es → ndV e < ndR es
 | [], e, h => by simp at h
 | d :: ds, e, h => by
  simp only [ndR]
  rcases zcp.1 h with rfl | h
  ·omega
  ·have := zar h; omega
theorem ndV_sl {es : List (List CD)} {ds : List CD} (h : CD.sl es ∈ ds) : ndR es < ndV ds := by
 induction ds with
 | nil => simp at h
 | cons d ds ih =>
  simp only [ndV]
  rcases zcp.1 h with rfl | h
  ·simp only [ndC]; omega
  ·have := ih h; omega
theorem zm {α : Type} (f : α → List CD) (ts : List α) (k : Nat) (h : k < ts.length) : wtR ((ts.map f).take (k + 1)) = wtR ((ts.map f).take k) + wtV (f ts[k]) := by
 rw [zck (by simpa using h), zaq]; simp [wtR]
theorem zj {α : Type} (f : α → List CD) (ts : List α) (k : Nat) : wtR ((ts.map f).take k) ≤ wtR (ts.map f) := by
 have := zaq ((ts.map f).take k) ((ts.map f).drop k); rw [List.take_append_drop] at this; omega
theorem wtR_ints (ns : List Int) : wtR (ns.map zn) = 0 := by induction ns with
 | nil => rfl
 | cons n ns ih => simp only [List.map_cons, wtR, ih, zn, wtV, wtC]
theorem zO (n : Int) : wtV [.int n] = 0 := rfl
theorem zG (n : Bool) : wtV [.bool n] = 0 := rfl
theorem zac (n : ByteArray) : wtV [.str n] = n.size := by simp [wtV, wtC]
theorem zad {α : Type} (f : α → List CD) (xs : List α) : wtV [.sl (xs.map f)] = xs.length + wtR (xs.map f) := by simp [wtV, wtC]
/-- What is left of a bound when n is taken; -1 where it does not suffice. -/
def SzRes (left : Int) (n : Nat) (r : Int) : Prop := ((n : Int) ≤ left ∧ r = left - n) ∨ (left < n ∧ r = -1)
def zas (left : Int) (n : Nat) (w : World) (e : Ending) (w' : World) : Prop := (∃ r, e = .returned (.int .i64 r) ∧ SzRes left n r) ∧ Below w.heap.size w w'
theorem zb {w1 w2 : World} {b : Nat} {cs : Array Value} (h : ∀ j, w1.cell? ⟨b, j, none⟩ = cs[j]?) (hl : b < w1.heap.size) (hb : Below w1.heap.size w1 w2) : ∀ j, w2.cell? ⟨b, j, none⟩ = cs[j]? :=
 fun j => (hb.cell (p := ⟨b, j, none⟩) hl).trans (h j)
theorem Tm.kid_nd {x k : Tm} (h : k ∈ x.kids) : ndV k.cd < ndV x.cd := by
 have h1 := zar (List.mem_map_of_mem (f := Tm.cd) h)
 have h2 : ndR (x.kids.map Tm.cd) < ndV x.cd := ndV_sl (by rw [Tm.cd_eq]; simp)
 omega
theorem Fm.kid_nd {x k : Fm} (h : k ∈ x.kids) : ndV k.cd < ndV x.cd := by
 have h1 := zar (List.mem_map_of_mem (f := Fm.cd) h)
 have h2 : ndR (x.kids.map Fm.cd) < ndV x.cd := ndV_sl (by rw [Fm.cd_eq]; simp)
 omega
end Go.Proofs.YtoehhbkhdddeeaaDoor
end
