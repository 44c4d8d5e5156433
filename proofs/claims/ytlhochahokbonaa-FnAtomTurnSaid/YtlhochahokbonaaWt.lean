/- The law's weights bound the sizes. -/
import Derived.Test.YtlhochahokbonaaExLib
namespace Go.Proofs.Ytlhochahokbonaa
open Go Go.RowKit
set_option linter.unusedVariables false
set_option linter.unusedSimpArgs false

theorem Tm.wtV_eq (t : Tm) : wtV t.cd = t.name.size + (t.kids.length + wtR (t.kids.map Tm.cd)) := by
  rw [Tm.cd_eq]; simp [wtV, wtC]
theorem wtR_cons (e : List CD) (es : List (List CD)) : wtR (e :: es) = wtV e + wtR es := by simp [wtR]
mutual
theorem Tm.size_wtV : ∀ (t : Tm), t.size ≤ 1 + wtV t.cd
  | .mk n ks => by
    have := Tm.sizes_wtR ks
    rw [Tm.wtV_eq]
    simp only [Tm.size, Tm.kids]
    omega
theorem Tm.sizes_wtR : ∀ (ts : List Tm), Tm.sizes ts ≤ ts.length + wtR (ts.map Tm.cd)
  | [] => by simp [Tm.sizes]
  | t :: ts => by
    have h1 := Tm.size_wtV t
    have h2 := Tm.sizes_wtR ts
    simp only [Tm.sizes, List.length_cons, List.map_cons, wtR_cons]
    omega
end
theorem sides_wt : ∀ (es : List Eqn), Tm.sizes (es.flatMap (fun e => [e.a, e.b])) ≤ 2 * es.length + wtR (es.map Eqn.cd)
  | [] => by simp [Tm.sizes]
  | e :: es => by
    have h1 := Tm.size_wtV e.a
    have h2 := Tm.size_wtV e.b
    have h3 := sides_wt es
    have h4 : wtV e.cd = wtV e.a.cd + wtV e.b.cd := by rw [Eqn.cd, wtV_append]
    rw [List.flatMap_cons, Tm.sizes_append]
    simp only [Tm.sizes, List.length_cons, List.map_cons, wtR_cons]
    omega
end Go.Proofs.Ytlhochahokbonaa
