/- Parts of the proof: ExLib Wt. -/
import Derived.Lib.QuietBelow
import Derived.Test.YtoehhbkhdddeeaaDoorPl2
import Derived.Test.YtoehhbkhdddeeaaDoorPl8
import Derived.Test.YtoehhbkhdddeeaaDoorPl9
section
namespace Go.Proofs.YtoehhbkhdddeeaaDoor
open Go Go.RowKit
set_option linter.unusedVariables false
set_option linter.unusedSimpArgs false
set_option maxRecDepth 100000
set_option maxHeartbeats 16000000
mutual
def wtC : CD → Nat
 | .str s => s.size
 | .sl es => es.length + wtR es
 | _ => 0
def wtR : List (List CD) → Nat
 | [] => 0
 | e :: es => wtV e + wtR es
def wtV : List CD → Nat
 | [] => 0
 | d :: ds => wtC d + wtV ds
end
theorem za9 : ∀ (a b : List CD), wtV (a ++ b) = wtV a + wtV b
 | [], b => by simp [wtV]
 | d :: ds, b => by simp only [List.cons_append, wtV, za9 ds b]; omega
theorem zba : ∀ (a b : List (List CD)), wtR (a ++ b) = wtR a + wtR b
 | [], b => by simp [wtR]
 | d :: ds, b => by simp only [List.cons_append, wtR, zba ds b]; omega
theorem wtR_ints (ns : List Int) : wtR (ns.map zg) = 0 := by induction ns with
 | nil => rfl
 | cons n ns ih => simp only [List.map_cons, wtR, ih, zg, wtV, wtC]
theorem wtV_int (n : Int) : wtV [.int n] = 0 := rfl
theorem wtV_bool (n : Bool) : wtV [.bool n] = 0 := rfl
theorem wtV_sl {α : Type} (f : α → List CD) (xs : List α) : wtV [.sl (xs.map f)] = xs.length + wtR (xs.map f) := by simp [wtV, wtC]
theorem zb {w1 w2 : World} {b : Nat} {cs : Array Value} (h : ∀ j, w1.cell? ⟨b, j, none⟩ = cs[j]?) (hl : b < w1.heap.size) (hb : Below w1.heap.size w1 w2) : ∀ j, w2.cell? ⟨b, j, none⟩ = cs[j]? :=
 fun j => (hb.cell (p := ⟨b, j, none⟩) hl).trans (h j)
theorem Tm.wtV_eq (t : Tm) : wtV t.cd = t.name.size + (t.kids.length + wtR (t.kids.map Tm.cd)) := by
 rw [Tm.cd_eq]; simp [wtV, wtC]
theorem zaO (e : List CD) (es : List (List CD)) : wtR (e :: es) = wtV e + wtR es := by simp [wtR]
end Go.Proofs.YtoehhbkhdddeeaaDoor
end
