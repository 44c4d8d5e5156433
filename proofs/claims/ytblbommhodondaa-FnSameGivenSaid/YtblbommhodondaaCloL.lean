/- The closure's loops, plain: what stays true from round to round. -/
import Derived.Test.YtblbommhodondaaCloR
import Derived.Test.YtblbommhodondaaTermL
import Derived.Test.YtblbommhodondaaEqs
namespace Go.Proofs.Ytblbommhodondaa
open Go Go.RowKit
set_option linter.unusedVariables false
set_option linter.unusedSimpArgs false

theorem Tm.Ord.nodup {l : List Tm} (h : Tm.Ord l) : l.Nodup := by
  unfold List.Nodup
  rw [List.pairwise_iff_getElem]
  intro i j hi hj hij e
  have := (h j hj).2
  rw [← e] at this
  exact this (List.mem_take_iff_getElem.2 ⟨i, by omega, rfl⟩)
theorem Tm.Ord.kid {l : List Tm} (h : Tm.Ord l) {i : Nat} (hi : i < l.length) {k : Tm} (hk : k ∈ l[i].kids) : k ∈ l := List.mem_of_mem_take ((h i hi).1 k hk)
/-- The place that comes back, where the parts stand in their order. -/
theorem Tm.IsPlace.pos' {l : List Tm} {t : Tm} {n : Int} (h : Tm.IsPlace l t n) (ho : Tm.Ord l) (ht : t ∈ l) : n = (Tm.pos l t : Nat) ∧ Tm.pos l t < l.length := ⟨h.pos ho.nodup ht, (Tm.pos_yes ht).1⟩

namespace Clo
theorem roots_le (n : Nat) (c : List Nat) : roots n c ≤ n := by
  unfold roots
  have := List.countP_le_length (p := fun i => cl c i == i) (l := List.range n)
  rwa [List.length_range] at this
/-- What the loop of congruence keeps: R is what it comes to. -/
def At (ps : List Tm) (R : List Nat × List Stp) (c : List Nat) (st : List Stp) : Prop := ∃ f, roots ps.length c ≤ f ∧ run ps f c st = R
theorem At.start {ps : List Tm} {c : List Nat} {st : List Stp} : At ps (run ps ps.length c st) c st := ⟨_, roots_le _ _, rfl⟩
theorem At.stop {ps : List Tm} {R : List Nat × List Stp} {c : List Nat} {st : List Stp} (h : At ps R c st) (hn : next ps c = none) : R = (c, st) := by
  obtain ⟨f, _, rfl⟩ := h; exact run_none hn f
theorem At.step {ps : List Tm} {R : List Nat × List Stp} {c : List Nat} {st : List Stp} (h : At ps R c st) (hg : Good ps.length c) {k i : Nat} (hn : next ps c = some (k, i)) :
    At ps R (join c k i) (st ++ [⟨k, i, -1⟩]) ∧ Good ps.length (join c k i) ∧ roots ps.length (join c k i) < roots ps.length c := by
  obtain ⟨f, hf, rfl⟩ := h
  obtain ⟨h1, h2, h3⟩ := next_spec hn
  have h4 := roots_join hg (by omega) h2 (bad_ne h3)
  obtain ⟨f', rfl⟩ : ∃ f', f = f' + 1 := ⟨f - 1, by omega⟩
  exact ⟨⟨f', by omega, (run_some hn).symm⟩, hg.join (by omega) h2, by omega⟩
/-- What the loop over the given ones keeps. -/
def Gv (ps : List Tm) (es : List Eqn) (R : List Nat × List Stp) (m : Nat) (c : List Nat) (st : List Stp) : Prop := given ps (es.drop m) m c st = R
theorem Gv.start {ps : List Tm} {es : List Eqn} {c : List Nat} {st : List Stp} : Gv ps es (given ps es 0 c st) 0 c st := rfl
theorem Gv.stop {ps : List Tm} {es : List Eqn} {R : List Nat × List Stp} {m : Nat} {c : List Nat} {st : List Stp} (h : Gv ps es R m c st) (hm : es.length ≤ m) : R = (c, st) := by
  unfold Gv at h
  rw [List.drop_eq_nil_of_le hm] at h
  exact h.symm
theorem Gv.same {ps : List Tm} {es : List Eqn} {R : List Nat × List Stp} {m : Nat} {c : List Nat} {st : List Stp} (h : Gv ps es R m c st) (hm : m < es.length) (he : cl c (Tm.pos ps es[m].a) = cl c (Tm.pos ps es[m].b)) : Gv ps es R (m + 1) c st := by
  unfold Gv at h
  rw [List.drop_eq_getElem_cons hm, given, if_pos he] at h
  exact h
theorem Gv.new {ps : List Tm} {es : List Eqn} {R : List Nat × List Stp} {m : Nat} {c : List Nat} {st : List Stp} (h : Gv ps es R m c st) (hm : m < es.length) (he : cl c (Tm.pos ps es[m].a) ≠ cl c (Tm.pos ps es[m].b)) :
    Gv ps es R (m + 1) (join c (Tm.pos ps es[m].a) (Tm.pos ps es[m].b)) (st ++ [⟨Tm.pos ps es[m].a, Tm.pos ps es[m].b, m⟩]) := by
  unfold Gv at h
  rw [List.drop_eq_getElem_cons hm, given, if_neg he] at h
  exact h
theorem close_eq (ps : List Tm) (es : List Eqn) : close ps es = run ps ps.length (given ps es 0 (List.range ps.length) []).1 (given ps es 0 (List.range ps.length) []).2 := rfl
theorem kidsB_len {ps : List Tm} {c : List Nat} : ∀ {xs ys : List Tm}, xs.length ≠ ys.length → kidsB ps c xs ys = false
  | [], [], h => absurd rfl h
  | [], _ :: _, _ => by simp [kidsB]
  | _ :: _, [], _ => by simp [kidsB]
  | x :: xs, y :: ys, h => by
    have := kidsB_len (ps := ps) (c := c) (xs := xs) (ys := ys) (by simpa using h)
    simp [kidsB, this]
theorem kidsB_at {ps : List Tm} {c : List Nat} : ∀ {xs ys : List Tm} {j : Nat} (h1 : j < xs.length) (h2 : j < ys.length), cl c (Tm.pos ps xs[j]) ≠ cl c (Tm.pos ps ys[j]) → kidsB ps c xs ys = false
  | x :: xs, y :: ys, 0, _, _, h => by simp [kidsB]; intro e; exact absurd e (by simpa using h)
  | x :: xs, y :: ys, j + 1, h1, h2, h => by
    have := kidsB_at (ps := ps) (c := c) (xs := xs) (ys := ys) (j := j) (by simpa using h1) (by simpa using h2) (by simpa using h)
    simp [kidsB, this]
theorem kidsB_all {ps : List Tm} {c : List Nat} : ∀ {xs ys : List Tm}, xs.length = ys.length → (∀ j (h1 : j < xs.length) (h2 : j < ys.length), cl c (Tm.pos ps xs[j]) = cl c (Tm.pos ps ys[j])) → kidsB ps c xs ys = true
  | [], [], _, _ => rfl
  | x :: xs, y :: ys, h, h' => by
    have h1 := h' 0 (by simp) (by simp)
    simp only [List.getElem_cons_zero] at h1
    have h2 := kidsB_all (ps := ps) (c := c) (xs := xs) (ys := ys) (by simpa using h) (fun j a b => by have := h' (j + 1) (by simpa using a) (by simpa using b); simpa using this)
    simp [kidsB, h1, h2]
end Clo
/-- l5More. -/
def moreB (s : Sg) (es : List Eqn) (ms : List Tm) : Bool := eqsB s es && (ms.all (fun t => (t.tsrt s).isSome) && decide ((Tm.addPs [] (sidesP es ++ ms)).length ≤ 24))
end Go.Proofs.Ytblbommhodondaa
