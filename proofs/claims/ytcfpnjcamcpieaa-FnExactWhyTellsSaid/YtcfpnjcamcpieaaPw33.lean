/- Parts of the proof: WhyW. -/
import Derived.Test.YtcfpnjcamcpieaaPw27
import Derived.Test.YtcfpnjcamcpieaaPw28
import Derived.Test.YtcfpnjcamcpieaaPw29
import Derived.Test.YtcfpnjcamcpieaaPw30
import Derived.Test.YtcfpnjcamcpieaaPw31
import Derived.Test.YtcfpnjcamcpieaaPw32
section
namespace Go.Proofs.Ytcfpnjcamcpieaa
open Go Go.RowKit
set_option linter.unusedVariables false
set_option linter.unusedSimpArgs false
set_option maxRecDepth 100000
set_option maxHeartbeats 16000000
theorem tells_any (es : List Eqn) (ev : Value) (ef : List Nat) (lo : Nat) (hel : es.length ≤ 1048576) (helo : ∀ b ∈ ef, b < lo) (n : Nat) : ∀ (x : Wy) (vs : List Value) (xf : List Nat) (d : Nat) (g : Int) (w : World), ndV x.cd ≤ n → x.thin → g + d = 401 → d ≤ 400 → lo ≤ w.heap.size → (∀ b ∈ xf, b < lo) → RdVs w x.cd vs xf → Rd w (.sl (es.map Eqn.cd)) ev ef →
  Calls Try.prog 33 #[.agg vs.toArray, ev, .int .i64 g] w (zA lo (Wy.tells es d x) w) := by
 induction n with
 | zero => intro x vs xf d g w hn; have h : 0 < ndV x.cd := (by rw [Wy.cd_eq]; simp [ndV, ndC]; try omega); omega
 | succ n ih =>
  intro x vs xf d g w hn hth
  by_cases c1 : x.rule = 1
  ·exact tells_c1 es ev ef lo hel helo n ih x vs xf d g w hn hth c1
  by_cases c2 : x.rule = 2
  ·exact tells_c2 es ev ef lo hel helo n ih x vs xf d g w hn hth c2
  by_cases c3 : x.rule = 3
  ·exact tells_c3 es ev ef lo hel helo n ih x vs xf d g w hn hth c3
  by_cases c4 : x.rule = 4
  ·exact tells_c4 es ev ef lo hel helo n ih x vs xf d g w hn hth c4
  by_cases c5 : x.rule = 5
  ·exact tells_c5 es ev ef lo hel helo n ih x vs xf d g w hn hth c5
  exact tells_c6 es ev ef lo hel helo n ih x vs xf d g w hn hth ⟨c1, c2, c3, c4, c5⟩
end Go.Proofs.Ytcfpnjcamcpieaa
end
