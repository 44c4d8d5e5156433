/- Parts of the proof: Sig4. -/
import Derived.Test.YtoehhbkhdddeeaaDoorPx23
section
namespace Go.Proofs.YtoehhbkhdddeeaaDoor
open Go Go.RowKit
set_option linter.unusedVariables false
set_option linter.unusedSimpArgs false
set_option maxRecDepth 100000
set_option maxHeartbeats 16000000
mutual
def Tm.srt (s : Sg) : Tm → Option Int
 | .mk n ks => match s.find n with
  | none => none
  | some x => if Tm.srts s ks x.args = true then some x.sort else none
def Tm.srts (s : Sg) : List Tm → List Int → Bool
 | [], [] => true
 | t :: ts, a :: l => (Tm.srt s t == some a) && Tm.srts s ts l
 | _, _ => false
end
def SrtUpTo (s : Sg) (ts : List Tm) (l : List Int) (k : Nat) : Prop := ∀ j, j < k → ∀ (h1 : j < ts.length) (h2 : j < l.length), ts[j].srt s = some l[j]
theorem SrtUpTo.succ {s : Sg} {ts : List Tm} {l : List Int} {k : Nat} (h : SrtUpTo s ts l k) (h1 : k < ts.length) (h2 : k < l.length) (he : ts[k].srt s = some l[k]) : SrtUpTo s ts l (k + 1) := fun j hj g1 g2 => by
 rcases Nat.lt_or_ge j k with h' | h'
 ·exact h j h' g1 g2
 ·obtain rfl : j = k := by omega
  exact he
def Tm.tsrt (s : Sg) (t : Tm) : Option Int := if s.okB = true ∧ t.wf = true then t.srt s else none
end Go.Proofs.YtoehhbkhdddeeaaDoor
end
