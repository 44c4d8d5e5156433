/- Parts of the proof: AtomC. -/
import Derived.Test.YtoehhbkhdddeeaaDoorPx42
section
namespace Go.Proofs.YtoehhbkhdddeeaaDoor
open Go Go.RowKit
set_option linter.unusedVariables false
set_option linter.unusedSimpArgs false
set_option maxRecDepth 100000
set_option maxHeartbeats 16000000
def CpF (x : Atm) (w : World) (a2 : Option Addr) (c2 : Nat) (a4 : Option Addr) (c4 : Nat) (a5 : Option Addr) (c5 : Nat) (a6 : Option Addr) (c6 : Nat) (U : World) : Prop := U.cell? ⟨w.heap.size, 0, none⟩ = some (.int .i64 x.kind) ∧ U.cell? ⟨w.heap.size, 1, none⟩ = some (.string x.a.name) ∧ U.cell? ⟨w.heap.size, 2, none⟩ = some (.slice a2 x.a.kids.length c2) ∧ U.cell? ⟨w.heap.size, 3, none⟩ = some (.string x.b.name) ∧ U.cell? ⟨w.heap.size, 4, none⟩ = some (.slice a4 x.b.kids.length c4) ∧ U.cell? ⟨w.heap.size, 5, none⟩ = some (.slice a5 x.nums.length c5) ∧ U.cell? ⟨w.heap.size, 6, none⟩ = some (.slice a6 x.times.length c6) ∧ U.cell? ⟨w.heap.size, 7, none⟩ = some (.int .i64 x.bound) ∧ U.cell? ⟨w.heap.size, 8, none⟩ = some (.bool x.strict)
theorem CpF.same {x : Atm} {w u u' : World} {a2 : Option Addr} {c2 : Nat} {a4 : Option Addr} {c4 : Nat} {a5 : Option Addr} {c5 : Nat} {a6 : Option Addr} {c6 : Nat} (hF : CpF x w a2 c2 a4 c4 a5 c5 a6 c6 u) (h : u'.heap[w.heap.size]? = u.heap[w.heap.size]?) : CpF x w a2 c2 a4 c4 a5 c5 a6 c6 u' :=
 ⟨zz h hF.1, zz h hF.2.1, zz h hF.2.2.1, zz h hF.2.2.2.1, zz h hF.2.2.2.2.1, zz h hF.2.2.2.2.2.1, zz h hF.2.2.2.2.2.2.1, zz h hF.2.2.2.2.2.2.2.1, zz h hF.2.2.2.2.2.2.2.2⟩
end Go.Proofs.YtoehhbkhdddeeaaDoor
end
