/- Parts of the proof: WhyS. -/
import Derived.Test.YtcfpnjcamcpieaaPw35
import Derived.Test.YtcfpnjcamcpieaaPw36
import Derived.Test.YtcfpnjcamcpieaaPw37
import Derived.Test.YtcfpnjcamcpieaaPw38
import Derived.Test.YtcfpnjcamcpieaaPw39
import Derived.Test.YtcfpnjcamcpieaaPw40
section
namespace Go.Proofs.Ytcfpnjcamcpieaa
open Go Go.RowKit
set_option linter.unusedVariables false
set_option linter.unusedSimpArgs false
set_option maxRecDepth 100000
set_option maxHeartbeats 16000000
theorem zcs (es : List Eqn) (ev : Value) (ef : List Nat) (lo : Nat) (hel : es.length ≤ 1048576) (hes : ∀ e ∈ es, e.lit) (helo : ∀ b ∈ ef, b < lo) (n : Nat) : ∀ (x : Wy) (vs : List Value) (xf : List Nat) (d : Nat) (D : Int) (w : World), ndV x.cd ≤ n → x.thin → D = d → d ≤ 400 → lo ≤ w.heap.size → (∀ b ∈ xf, b < lo) → RdVs w x.cd vs xf → Rd w (.sl (es.map Eqn.cd)) ev ef →
  Calls Try.prog 26 #[ev, .agg vs.toArray, .int .i64 D] w (zA lo (Wy.tells es d x) w) := by
 induction n with
 | zero => intro x vs xf d D w hn; have h : 0 < ndV x.cd := (by rw [Wy.cd_eq]; simp [ndV, ndC]; try omega); omega
 | succ n ih =>
  intro x vs xf d D w hn hth
  by_cases c1 : x.rule = 1
  ·exact zcO es ev ef lo hel hes helo n ih x vs xf d D w hn hth c1
  by_cases c2 : x.rule = 2
  ·exact zcP es ev ef lo hel hes helo n ih x vs xf d D w hn hth c2
  by_cases c3 : x.rule = 3
  ·exact zcQ es ev ef lo hel hes helo n ih x vs xf d D w hn hth c3
  by_cases c4 : x.rule = 4
  ·exact zcR es ev ef lo hel hes helo n ih x vs xf d D w hn hth c4
  by_cases c5 : x.rule = 5
  ·exact zcS es ev ef lo hel hes helo n ih x vs xf d D w hn hth c5
  exact zcT es ev ef lo hel hes helo n ih x vs xf d D w hn hth ⟨c1, c2, c3, c4, c5⟩
end Go.Proofs.Ytcfpnjcamcpieaa
end
