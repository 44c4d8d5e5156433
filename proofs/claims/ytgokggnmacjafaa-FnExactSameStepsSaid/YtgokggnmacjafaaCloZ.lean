/- How many scalars SameSteps gives. -/
import Derived.Test.YtgokggnmacjafaaCloY
import Derived.Test.YtgokggnmacjafaaCnt
namespace Go.Proofs.Ytgokggnmacjafaa
open Go Go.RowKit
set_option linter.unusedVariables false
set_option linter.unusedSimpArgs false
theorem Clo.given_len {ps : List Tm} : ∀ (es : List Eqn) (n : Nat) (c : List Nat) (st : List Stp), (Clo.given ps es n c st).2.length ≤ st.length + es.length
  | [], _, _, st => by simp [Clo.given]
  | e :: es, n, c, st => by
    unfold Clo.given
    split
    · have := Clo.given_len (ps := ps) es (n + 1) c st
      simp only [List.length_cons]; omega
    · have := Clo.given_len (ps := ps) es (n + 1) (Clo.join c (Tm.pos ps e.a) (Tm.pos ps e.b)) (st ++ [⟨Tm.pos ps e.a, Tm.pos ps e.b, n⟩])
      simp only [List.length_cons, List.length_append, List.length_nil] at this ⊢; omega
theorem Clo.run_len {ps : List Tm} : ∀ (f : Nat) (c : List Nat) (st : List Stp), (Clo.run ps f c st).2.length ≤ st.length + f
  | 0, _, _ => by simp [Clo.run]
  | f + 1, c, st => by
    unfold Clo.run
    cases hn : Clo.next ps c with
    | none => simp only; omega
    | some p =>
      obtain ⟨k, i⟩ := p
      have := Clo.run_len (ps := ps) f (Clo.join c k i) (st ++ [⟨k, i, -1⟩])
      simp only [List.length_append, List.length_cons, List.length_nil] at this ⊢; omega
theorem cloS_len (es : List Eqn) (ms : List Tm) : (cloS es ms).length ≤ es.length + (moreP es ms).length := by
  have h1 := Clo.run_len (ps := moreP es ms) (moreP es ms).length (Clo.given (moreP es ms) es 0 (List.range (moreP es ms).length) []).1 (Clo.given (moreP es ms) es 0 (List.range (moreP es ms).length) []).2
  have h2 := Clo.given_len (ps := moreP es ms) es 0 (List.range (moreP es ms).length) []
  unfold cloS
  rw [Clo.close_eq]
  simp only [List.length_nil] at h2
  omega
theorem cntR_stp : ∀ (xs : List Stp), cntR (xs.map Stp.cd) = 3 * xs.length
  | [] => by simp [cntR]
  | x :: xs => by
    have := cntR_stp xs
    simp only [List.map_cons, cntR, List.length_cons, this]
    simp [Stp.cd, intCd, cntV, cnt]
    omega
theorem sameSt_cnt2 (s : Sg) (es : List Eqn) (ms : List Tm) : cntR ((sameSt s es ms).2.map Stp.cd) ≤ 50000000000000 := by
  rw [cntR_stp]
  cases hok : moreB s es ms
  · rw [sameSt_no hok]; simp
  · have h1 := moreB_yes hok
    have h2 := cloS_len es ms
    rw [sameSt_yes hok]
    simp only
    omega
theorem sameSt_cnt1 (s : Sg) (es : List Eqn) (ms : List Tm) (h1 : es.length + wtR (es.map Eqn.cd) ≤ 1048576) (h2 : ms.length + wtR (ms.map Tm.cd) ≤ 1048576) : cntR ((sameSt s es ms).1.map Tm.cd) ≤ 100000000000000 := by
  cases hok : moreB s es ms
  · rw [sameSt_no hok]; simp [cntR]
  · rw [sameSt_yes hok, Tm.cntR_cds]
    simp only
    have h3 := sides_wt es
    have h4 := Tm.sizes_wtR ms
    have h5 : Tm.sizes (sidesP es ++ ms) ≤ 3145728 := by rw [Tm.sizes_append, sidesP]; omega
    have h6 := Tm.addPs_sizes (sidesP es ++ ms) []
    simp only [Tm.sizes, Nat.zero_add] at h6
    have h7 : Tm.sizes (sidesP es ++ ms) * Tm.sizes (sidesP es ++ ms) ≤ 3145728 * 3145728 := Nat.mul_le_mul h5 h5
    unfold moreP
    omega
end Go.Proofs.Ytgokggnmacjafaa
