/- BothNums: the two walks. -/
import Derived.Test.YteclieenkephfaaGreatBoth5
namespace Go.Proofs.YteclieenkephfaaGreat
open Go Go.RowKit
set_option linter.unusedVariables false
set_option linter.unusedSimpArgs false

def numsB (s : Sg) (ls : List Lt) : List Tm := if bothB s ls = true then (Tm.addPs [] (litsT ls)).filter (Tm.isNum s) else []
theorem numsB_no {s : Sg} {ls : List Lt} (h : bothB s ls = false) : numsB s ls = [] := by unfold numsB; rw [h]; rfl
theorem bothB_ats {s : Sg} {ls : List Lt} (h : bothB s ls = true) : s.okB = true ∧ ls.length ≤ 6 ∧ ls.all (fun l => atomB s l.atom) = true := by
  simp only [bothB, Bool.and_eq_true, decide_eq_true_eq] at h
  exact ⟨h.2.2.1, h.1, h.2.1⟩
theorem numsB_yes {s : Sg} {ls : List Lt} (h : bothB s ls = true) : (Tm.parts (litsT ls)).filter (Tm.isNum s) = numsB s ls := by
  unfold numsB; rw [if_pos h, lits_parts (bothB_ats h).2.2]
theorem numsB_yesS {s : Sg} {ls : List Lt} (h : bothB s ls = true) : (Tm.addPs [] (litsU ls)).filter (numS s) = numsB s ls := by
  unfold numsB; rw [if_pos h, lits_same (bothB_ats h).2.2]
  exact lits_nums (bothB_ats h).1 (bothB_ats h).2.2
theorem litsU_len (ls : List Lt) : (Tm.addPs [] (litsU ls)).length ≤ Tm.sizes (litsU ls) := by
  have := Tm.addPs_len (litsU ls) []; simpa using this

end Go.Proofs.YteclieenkephfaaGreat
