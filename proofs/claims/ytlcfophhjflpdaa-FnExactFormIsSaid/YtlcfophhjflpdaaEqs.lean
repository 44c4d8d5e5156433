/- Chapter 5's EqsOk, both. -/
import Derived.Deep.RegionHeld3
import Derived.Test.YtlcfophhjflpdaaSig4
import Derived.Test.YtlcfophhjflpdaaTermP
namespace Go.Proofs.Ytlcfophhjflpdaa
open Go Go.RowKit
set_option linter.unusedVariables false
set_option linter.unusedSimpArgs false

def sidesP (es : List Eqn) : List Tm := es.flatMap (fun e => [e.a, e.b])
theorem sidesP_succ (es : List Eqn) (k : Nat) (h : k < es.length) : sidesP (es.take (k + 1)) = sidesP (es.take k) ++ [es[k].a, es[k].b] := by
  rw [List.take_succ_eq_append_getElem h, sidesP, List.flatMap_append]; simp [sidesP]
theorem sidesP_len : ∀ (es : List Eqn), (sidesP es).length = 2 * es.length
  | [] => rfl
  | e :: es => by have := sidesP_len es; simp only [sidesP, List.flatMap_cons, List.length_append, List.length_cons, List.length_nil] at *; omega
def Eqn.okB (s : Sg) (e : Eqn) : Bool := match e.a.tsrt s, e.b.tsrt s with | some m, some n => m == n | _, _ => false
theorem Eqn.okB_a {s : Sg} {e : Eqn} (h : e.a.tsrt s = none) : e.okB s = false := by simp [Eqn.okB, h]
theorem Eqn.okB_b {s : Sg} {e : Eqn} (h : e.b.tsrt s = none) : e.okB s = false := by unfold Eqn.okB; rw [h]; split <;> simp_all
theorem Eqn.okB_ab {s : Sg} {e : Eqn} {m n : Int} (h : e.a.tsrt s = some m) (h' : e.b.tsrt s = some n) : e.okB s = (m == n) := by simp [Eqn.okB, h, h']
theorem Eqn.okB_wf {s : Sg} {e : Eqn} (h : e.okB s = true) : e.a.wf = true ∧ e.b.wf = true := by
  constructor
  · cases hw : e.a.wf with
    | true => rfl
    | false => rw [Eqn.okB_a (Tm.tsrt_bad hw)] at h; simp at h
  · cases hw : e.b.wf with
    | true => rfl
    | false => rw [Eqn.okB_b (Tm.tsrt_bad hw)] at h; simp at h
def eqsB (s : Sg) (es : List Eqn) : Bool := s.okB && (decide (es.length ≤ 12) && (es.all (Eqn.okB s) && decide ((Tm.addPs [] (sidesP es)).length ≤ 24)))
theorem eqsB_sig {s : Sg} {es : List Eqn} (h : s.okB = false) : eqsB s es = false := by simp [eqsB, h]
theorem eqsB_len {s : Sg} {es : List Eqn} (h : ¬ es.length ≤ 12) : eqsB s es = false := by simp [eqsB, h]
theorem eqsB_one {s : Sg} {es : List Eqn} {k : Nat} (hk : k < es.length) (h : es[k].okB s = false) : eqsB s es = false := by
  have : es.all (Eqn.okB s) = false := by rw [List.all_eq_false]; exact ⟨es[k], List.getElem_mem hk, by simp [h]⟩
  simp only [eqsB, this, Bool.false_and, Bool.and_false]
theorem eqsB_all {s : Sg} {es : List Eqn} {k : Nat} (h1 : s.okB = true) (h2 : es.length ≤ 12) (hk : es.length ≤ k) (h : ∀ j, j < k → ∀ (hj : j < es.length), es[j].okB s = true) : eqsB s es = decide ((Tm.addPs [] (sidesP es)).length ≤ 24) := by
  have : es.all (Eqn.okB s) = true := by
    rw [List.all_eq_true]; intro e he
    obtain ⟨j, hj, rfl⟩ := List.getElem_of_mem he
    exact h j (by omega) hj
  simp only [eqsB, h1, decide_eq_true h2, this, Bool.true_and]
theorem sides_wf {s : Sg} {es : List Eqn} {k : Nat} (hk : es.length ≤ k) (h : ∀ j, j < k → ∀ (hj : j < es.length), es[j].okB s = true) : (sidesP es).all Tm.wf = true := by
  rw [List.all_eq_true]; intro t ht
  simp only [sidesP, List.mem_flatMap] at ht
  obtain ⟨e, he, ht⟩ := ht
  obtain ⟨j, hj, rfl⟩ := List.getElem_of_mem he
  have := Eqn.okB_wf (h j (by omega) hj)
  simp only [List.mem_cons, List.not_mem_nil, or_false] at ht
  rcases ht with rfl | rfl
  · exact this.1
  · exact this.2

end Go.Proofs.Ytlcfophhjflpdaa
