/- Parts of the proof: CopyL. -/
import Derived.Test.YtoehhbkhdddeeaaDoorPx19
import Derived.Test.YtoehhbkhdddeeaaDoorPx20
import Derived.Test.YtoehhbkhdddeeaaDoorPx37
section
namespace Go.Proofs.YtoehhbkhdddeeaaDoor
open Go Go.RowKit
set_option linter.unusedVariables false
set_option linter.unusedSimpArgs false
set_option maxRecDepth 100000
set_option maxHeartbeats 16000000
section
variable {P : Program} {ops : Array Oper} {Q : Exit → Act → World → Prop} {F : World → Prop} {s0 : Nat}
/-- What is to be shown of number i, if it comes up. -/
def Step (P : Program) (ops : Array Oper) (Q : Exit → Act → World → Prop) (F : World → Prop) (s0 n : Nat) (up : Array Bool) (a : Act) (w : World) (i : Nat) (o : Oper) : Prop :=
 ∀ K' : Act → World → Prop, Hid (∀ b u, ((up.setIfInBounds i true).getD s0 true = false → F u) → Till P ops Q F s0 n (up.setIfInBounds i true) b u → K' b u) → if Region.wanted o (yielded ops a.tmps) = true then Oper.wp P o a w K' Q else K' (a.put o.dst undef) w
theorem Step.op {i : Nat} {o : Oper} {n : Nat} {up : Array Bool} {a : Act} {w : World} (ho : ops[i]? = some o) (h : Step P ops Q F s0 n up a w i o) :
  wpOp P ops Q i (fun b u => ((up.setIfInBounds i true).getD s0 true = false → F u) ∧ Till P ops Q F s0 n (up.setIfInBounds i true) b u) a w :=
 wpOp_step ho fun K' hK => h K' (Lib.hid fun b u h1 h2 => hK b u ⟨h1, h2⟩)
end
theorem Fresh.join {lo : Nat} {w : World} {f g : List Nat} (h : Fresh lo w f) (h' : Fresh lo w g) (hd : ∀ b ∈ f, b ∉ g) : Fresh lo w (f ++ g) := by
 refine ⟨List.nodup_append.2 ⟨h.1, h'.1, fun a ha b hb e => hd a ha (e ▸ hb)⟩, fun b hb => ?_⟩
 rcases zcl.1 hb with h1 | h1
 ·exact h.2 b h1
 ·exact h'.2 b h1
end Go.Proofs.YtoehhbkhdddeeaaDoor
end
