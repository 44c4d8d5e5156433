/- A '[]laws.Term' that came in, read. -/
import Derived.Test.YtmmmcfhhblmdjaaOpen
import Derived.Test.YtmmmcfhhblmdjaaTermW
namespace Go.Proofs.Ytmmmcfhhblmdjaa
open Go Go.RowKit Go.ChangeShapes Go.WideShapes

theorem cellsStr : Try.prog.cellsOf 9 = 1 := by kernel_rfl
theorem cellsTermsL : Try.prog.cellsOf 30 = 1 := by kernel_rfl
theorem cellsTermL : Try.prog.cellsOf 57 = 2 := by kernel_rfl

theorem open_tms {H : Type} {enc : TypeId × Value → H} {w : World} {base : Nat} {spare : Nat → Bool} {held : Bool} : ∀ (fuel : Nat) (cs : List Value) (x : DataW H × List MemPlace),
    DataW.trod enc Try.prog w base spare held fuel 30 cs = some x → ∃ (ts : List Tm) (v : Value) (fp : List Nat), cs = [v] ∧ Rd w (.sl (ts.map Tm.cd)) v fp := by
  intro fuel
  induction fuel using Nat.strongRecOn with
  | _ fuel ih =>
    intro cs x h
    refine rd_slice Tm.cd Try.underlying30 cellsTermL (by omega) h ?_
    intro n hn cs' x' h'
    obtain ⟨xs, m, hm, _, hlen, hxl, hf⟩ := DataW.trod_struct Try.underlying57 h'
    rw [cellsTermL] at hlen
    have hxl2 : xs.length = 2 := hxl
    have g0 := hf 0 _ rfl
    have g1 := hf 1 _ rfl
    clear hf hxl
    obtain ⟨c0, c1, rfl⟩ := list2 hlen
    obtain ⟨y0, y1, rfl⟩ := list2 hxl2
    simp [cellsStr, cellsTermsL] at g0 g1
    obtain ⟨s, h0⟩ := rd_str Try.underlying9 g0
    obtain ⟨ts, v, fp, hv, h1⟩ := ih m (by omega) _ _ g1
    obtain rfl := list1 hv
    refine ⟨.mk s ts, fp, ?_⟩
    rw [Tm.cd_eq]
    exact h0.app (RdVs.single h1)
end Go.Proofs.Ytmmmcfhhblmdjaa
