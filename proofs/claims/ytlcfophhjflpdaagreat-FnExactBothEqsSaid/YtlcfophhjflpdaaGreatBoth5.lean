/- The law's weights bound the terms of literals. -/
import Derived.Test.YtlcfophhjflpdaaGreatBoth4
namespace Go.Proofs.YtlcfophhjflpdaaGreat
open Go Go.RowKit
set_option linter.unusedVariables false
set_option linter.unusedSimpArgs false

theorem wtR_mem' {α : Type} {f : α → List CD} {xs : List α} {x : α} (h : x ∈ xs) : wtV (f x) ≤ wtR (xs.map f) := by
  induction xs with
  | nil => simp at h
  | cons y ys ih =>
    simp only [List.map_cons, wtR]
    rcases List.mem_cons.1 h with rfl | h
    · omega
    · have := ih h; omega
theorem Atm.tms_wt (x : Atm) : Tm.sizes x.tms ≤ 2 + wtV x.cd := by
  have h1 := Tm.size_wtV x.a
  have h2 := Tm.size_wtV x.b
  have h3 := Tm.sizes_wtR x.nums
  simp only [Atm.cd, wtV_append, wtV_int, wtV_bool, wtV_sl]
  unfold Atm.tms
  split
  · simp only [Tm.sizes]; omega
  · omega
theorem Lt.wt_atom (x : Lt) : wtV x.atom.cd = wtV x.cd := by rw [Lt.cd, wtV_append, wtV_bool]; rfl
theorem litsT_wt : ∀ (ls : List Lt), Tm.sizes (litsT ls) ≤ 2 * ls.length + wtR (ls.map Lt.cd)
  | [] => by simp [litsT, Tm.sizes]
  | l :: ls => by
    have h1 := Atm.tms_wt l.atom
    have h2 := litsT_wt ls
    have h3 := Lt.wt_atom l
    simp only [litsT, List.flatMap_cons, Tm.sizes_append, List.length_cons, List.map_cons, wtR] at h2 ⊢
    omega
theorem litsU_wt : ∀ (ls : List Lt), Tm.sizes (litsU ls) ≤ 2 * ls.length + wtR (ls.map Lt.cd)
  | [] => by simp [litsU, Tm.sizes]
  | l :: ls => by
    have h1 := Atm.tms_wt l.atom
    have h2 := litsU_wt ls
    have h3 := Lt.wt_atom l
    have h4 : Tm.sizes l.tms ≤ Tm.sizes l.atom.tms := by unfold Lt.tms; split <;> simp [Tm.sizes]
    simp only [litsU, List.flatMap_cons, Tm.sizes_append, List.length_cons, List.map_cons, wtR] at h2 ⊢
    omega
theorem lits_small {ls : List Lt} (h : ls.length + wtR (ls.map Lt.cd) ≤ 1048576) : ∀ l ∈ ls, l.atom.small := fun l hl => by
  have := wtR_mem' (f := Lt.cd) hl
  exact Lt.small_of (by omega)
end Go.Proofs.YtlcfophhjflpdaaGreat
