/- What the laws on the closure look at, plain. No program in sight. -/
import Derived.Test.YtblbommhodondaaCloM
import Derived.Test.YtblbommhodondaaLawTm
namespace Go.Proofs.Ytblbommhodondaa
open Go Go.RowKit
set_option linter.unusedVariables false
set_option linter.unusedSimpArgs false

theorem Tm.plc_pos {l : List Tm} {t : Tm} (h : t ∈ l) : Tm.plc l t = (Tm.pos l t : Nat) := by
  obtain ⟨k, hk, e, h2⟩ := Tm.plc_yes h
  unfold Tm.plc at e ⊢
  unfold Tm.pos
  split
  · rename_i j hj; rw [hj]; rfl
  · rename_i hn; rw [hn] at e; simp at e
namespace Clo
theorem kidsB_symm {ps : List Tm} {c : List Nat} : ∀ {xs ys : List Tm}, kidsB ps c xs ys = true → kidsB ps c ys xs = true
  | [], [], _ => rfl
  | [], _ :: _, h => by simp [kidsB] at h
  | _ :: _, [], h => by simp [kidsB] at h
  | x :: xs, y :: ys, h => by
    simp only [kidsB, Bool.and_eq_true, beq_iff_eq] at h ⊢
    exact ⟨h.1.symm, kidsB_symm h.2⟩
theorem kidsB_not {ps : List Tm} {c : List Nat} {xs ys : List Tm} {j : Nat} (h1 : j < xs.length) (h2 : j < ys.length) (h : cl c (Tm.pos ps xs[j]) ≠ cl c (Tm.pos ps ys[j])) : kidsB ps c xs ys = false := by
  cases hb : kidsB ps c xs ys with
  | false => rfl
  | true => exact absurd ((kidsB_true hb).2 j h1 h2) h
/-- What the classes of the closure answer to. -/
structure Ok (ps : List Tm) (es : List Eqn) (c : List Nat) : Prop where
  ord : Tm.Ord ps
  len : c.length = ps.length
  low : ∀ i, i < ps.length → cl c i ≤ i ∧ cl c (cl c i) = cl c i
  alike : ∀ k i (hk : k < i) (hi : i < ps.length), ps[i].name = (ps[k]'(by omega)).name → kidsB ps c ps[i].kids (ps[k]'(by omega)).kids = true → cl c i = cl c k
  given : ∀ e ∈ es, (e.a ∈ ps ∧ e.b ∈ ps) ∧ cl c (Tm.pos ps e.a) = cl c (Tm.pos ps e.b)
end Clo
theorem Tm.eq_of {t u : Tm} (h1 : t.name = u.name) (h2 : t.kids = u.kids) : t = u := by
  cases t; cases u; simp only [Tm.name, Tm.kids] at h1 h2; rw [h1, h2]
theorem cloC_ok (es : List Eqn) (ms : List Tm) : Clo.Ok (moreP es ms) es (cloC es ms) := by
  have ho := moreP_ord es ms
  obtain ⟨h1, h2, h3⟩ := Clo.close_made (moreP_eqs es ms)
  refine ⟨ho, h1.good.1, h1.good.2, fun k i hk hi hn hkids => ?_, fun e he => ⟨moreP_eqs es ms e he, h2 e he⟩⟩
  have hlt : k < (moreP es ms).length := by omega
  by_cases h0 : 0 < ((moreP es ms)[k]).kids.length
  · exact (Clo.none_alike h3 hk hi (by unfold Clo.alikeB; rw [decide_eq_true hn.symm, decide_eq_true h0]; exact Clo.kidsB_symm hkids)).symm
  · have hl := (Clo.kidsB_true hkids).1
    have e1 : ((moreP es ms)[k]).kids = [] := List.eq_nil_of_length_eq_zero (by omega)
    have e2 : ((moreP es ms)[i]).kids = [] := List.eq_nil_of_length_eq_zero (by omega)
    have he : (moreP es ms)[i] = (moreP es ms)[k] := Tm.eq_of hn (e2.trans e1.symm)
    have := (List.getElem_inj (Tm.Ord.nodup ho)).1 he
    omega
/-- How many parts are no first ones. -/
def notRoots (c : List Nat) (k : Nat) : Nat := (List.range k).countP fun i => Clo.cl c i != i
theorem notRoots_le (c : List Nat) (k : Nat) : notRoots c k ≤ k := by unfold notRoots; have := List.countP_le_length (p := fun i => Clo.cl c i != i) (l := List.range k); rw [List.length_range] at this; exact this
theorem notRoots_zero (c : List Nat) : notRoots c 0 = 0 := rfl
theorem notRoots_yes {c : List Nat} {k : Nat} (h : Clo.cl c k ≠ k) : notRoots c (k + 1) = notRoots c k + 1 := by
  unfold notRoots; rw [List.range_succ, List.countP_append]; simp [h]
theorem notRoots_no {c : List Nat} {k : Nat} (h : Clo.cl c k = k) : notRoots c (k + 1) = notRoots c k := by
  unfold notRoots; rw [List.range_succ, List.countP_append]; simp [h]
theorem cloS_ok (es : List Eqn) (ms : List Tm) : notRoots (cloC es ms) (moreP es ms).length = (cloS es ms).length ∧
    ∀ x ∈ cloS es ms, ∃ a b : Nat, x.a = a ∧ x.b = b ∧ a ≠ b ∧ a < (moreP es ms).length ∧ b < (moreP es ms).length ∧ Clo.cl (cloC es ms) a = Clo.cl (cloC es ms) b := by
  obtain ⟨h1, h2, h3⟩ := Clo.close_made (moreP_eqs es ms)
  refine ⟨?_, h1.step⟩
  have hc := h1.count
  have hl := List.length_eq_countP_add_countP (fun i => Clo.cl (cloC es ms) i == i) (l := List.range (moreP es ms).length)
  rw [List.length_range] at hl
  have he : notRoots (cloC es ms) (moreP es ms).length = (List.range (moreP es ms).length).countP (fun a => decide ¬(Clo.cl (cloC es ms) a == a) = true) := by
    unfold notRoots
    congr 1
    funext i
    cases h : (Clo.cl (cloC es ms) i == i) <;> simp [bne, h]
  have hr : Clo.roots (moreP es ms).length (cloC es ms) = (List.range (moreP es ms).length).countP (fun i => Clo.cl (cloC es ms) i == i) := rfl
  change Clo.roots (moreP es ms).length (cloC es ms) + (cloS es ms).length = _ at hc
  omega
end Go.Proofs.Ytblbommhodondaa
