/- Parts of the proof: ExHeld. -/
import Derived.Test.YtcfpnjcamcpieaaPw45
namespace Go.Proofs.Ytcfpnjcamcpieaa
open Go Go.RowKit
set_option linter.unusedVariables false
set_option linter.unusedSimpArgs false
set_option maxHeartbeats 1600000
set_option maxRecDepth 100000
theorem RdFlat.below {w w' : World} {b off : Nat} {ds : List CD} {f : List Nat} (h : RdFlat w b off ds f) (hl : b < w.heap.size) (hb : Below w.heap.size w w') : RdFlat w' b off ds f := by
 obtain ⟨vs, h1, h2⟩ := h
 exact ⟨vs, fun j u hj => (World.cell?_of_block (w := w) (hb.block b hl)).trans (h1 j u hj), h2.below hb⟩
def HeldOut (es : List (List CD)) (k : Int) (w : World) (e : Ending) (w' : World) : Prop := e = .returned (.int .i64 (k + cntR es)) ∧ Below w.heap.size w w'
theorem zcv (xs : List Tm) (v : Value) (fp : List Nat) (k : Int) (w : World) (h0 : 0 < k) (h1 : k + cntR (xs.map Tm.cd) ≤ 200000000000000) (hv : Rd w (.sl (mkR (xs.map Tm.cd) k)) v fp) :
  Calls Try.prog 66 #[v, .int .i64 k] w (HeldOut (xs.map Tm.cd) k w) := by
 have h := zbY (Tm.sizes xs) xs v fp k w (Nat.le_refl _) h0 (by rw [← Tm.cntR_cds]; exact h1) hv
 rw [← Tm.cntR_cds] at h
 exact h
end Go.Proofs.Ytcfpnjcamcpieaa
