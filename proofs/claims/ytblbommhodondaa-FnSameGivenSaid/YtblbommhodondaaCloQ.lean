/- The closure, plain: what it ends with. No program in sight. -/
import Derived.Test.YtblbommhodondaaCloU
namespace Go.Proofs.Ytblbommhodondaa
open Go Go.RowKit
set_option linter.unusedVariables false
set_option linter.unusedSimpArgs false
namespace Clo
theorem join_keep {n : Nat} {c : List Nat} (h : Good n c) {a b i j : Nat} (hi : i < n) (hj : j < n) (he : cl c i = cl c j) : cl (join c a b) i = cl (join c a b) j := by
  rw [cl_join (by rw [h.1]; exact hi), cl_join (by rw [h.1]; exact hj), he]
theorem join_same {n : Nat} {c : List Nat} (h : Good n c) {a b : Nat} (ha : a < n) (hb : b < n) : cl (join c a b) a = cl (join c a b) b := by
  rw [cl_join (by rw [h.1]; exact ha), cl_join (by rw [h.1]; exact hb)]
  unfold hi lo
  rcases Nat.le_total (cl c a) (cl c b) with h1 | h1
  · rw [Nat.max_eq_right h1, Nat.min_eq_left h1]
    by_cases h2 : cl c a = cl c b
    · rw [if_pos h2, if_pos rfl]
    · rw [if_neg h2, if_pos rfl]
  · rw [Nat.max_eq_left h1, Nat.min_eq_right h1]
    by_cases h2 : cl c b = cl c a
    · rw [if_pos rfl, if_pos h2]
    · rw [if_pos rfl, if_neg h2]
/-- The steps that a run of the closure has made, and the classes behind them. -/
structure Made (n : Nat) (c : List Nat) (st : List Stp) : Prop where
  good : Good n c
  count : roots n c + st.length = n
  step : ∀ s ∈ st, ∃ a b : Nat, s.a = a ∧ s.b = b ∧ a ≠ b ∧ a < n ∧ b < n ∧ cl c a = cl c b
theorem Made.start (n : Nat) : Made n (List.range n) [] := ⟨Good.start n, by rw [roots_start]; simp, by simp⟩
theorem Made.join {n : Nat} {c : List Nat} {st : List Stp} (h : Made n c st) {a b : Nat} {g : Int} (ha : a < n) (hb : b < n) (hne : cl c a ≠ cl c b) : Made n (Clo.join c a b) (st ++ [⟨a, b, g⟩]) := by
  refine ⟨h.good.join ha hb, ?_, fun s hs => ?_⟩
  · have := roots_join h.good ha hb hne
    have := h.count
    simp only [List.length_append, List.length_cons, List.length_nil]; omega
  · rcases List.mem_append.1 hs with hs | hs
    · obtain ⟨x, y, h1, h2, h3, h4, h5, h6⟩ := h.step s hs
      exact ⟨x, y, h1, h2, h3, h4, h5, join_keep h.good h4 h5 h6⟩
    · obtain rfl := List.mem_singleton.1 hs
      exact ⟨a, b, rfl, rfl, fun e => hne (by rw [e]), ha, hb, join_same h.good ha hb⟩
/-- Two parts are in one class. -/
def One (c : List Nat) (i j : Nat) : Prop := cl c i = cl c j
theorem given_made {ps : List Tm} : ∀ (es : List Eqn) (m : Nat) (c : List Nat) (st : List Stp), (∀ e ∈ es, e.a ∈ ps ∧ e.b ∈ ps) → Made ps.length c st →
    Made ps.length (given ps es m c st).1 (given ps es m c st).2 ∧ (∀ i j, i < ps.length → j < ps.length → One c i j → One (given ps es m c st).1 i j) ∧ ∀ e ∈ es, One (given ps es m c st).1 (Tm.pos ps e.a) (Tm.pos ps e.b)
  | [], m, c, st, _, h => ⟨h, fun _ _ _ _ h => h, by simp⟩
  | e :: es, m, c, st, hin, h => by
    have h1 := hin e (by simp)
    have hpa := (Tm.pos_yes h1.1).1
    have hpb := (Tm.pos_yes h1.2).1
    have h2 : ∀ x ∈ es, x.a ∈ ps ∧ x.b ∈ ps := fun x hx => hin x (by simp [hx])
    unfold given
    split
    · rename_i heq
      obtain ⟨q1, q2, q3⟩ := given_made es (m + 1) c st h2 h
      refine ⟨q1, q2, fun x hx => ?_⟩
      rcases List.mem_cons.1 hx with rfl | hx
      · exact q2 _ _ hpa hpb heq
      · exact q3 x hx
    · rename_i hne
      obtain ⟨q1, q2, q3⟩ := given_made es (m + 1) (join c (Tm.pos ps e.a) (Tm.pos ps e.b)) (st ++ [⟨Tm.pos ps e.a, Tm.pos ps e.b, m⟩]) h2 (h.join hpa hpb hne)
      refine ⟨q1, fun i j hi hj he => q2 i j hi hj (join_keep h.good hi hj he), fun x hx => ?_⟩
      rcases List.mem_cons.1 hx with rfl | hx
      · exact q2 _ _ hpa hpb (join_same h.good hpa hpb)
      · exact q3 x hx
theorem next_empty {ps : List Tm} {c : List Nat} (h : ps.length = 0) : next ps c = none := by unfold next; rw [h]; rfl
theorem run_made {ps : List Tm} : ∀ (f : Nat) (c : List Nat) (st : List Stp), roots ps.length c ≤ f → Made ps.length c st →
    Made ps.length (run ps f c st).1 (run ps f c st).2 ∧ (∀ i j, i < ps.length → j < ps.length → One c i j → One (run ps f c st).1 i j) ∧ next ps (run ps f c st).1 = none
  | 0, c, st, hf, h => by
    refine ⟨h, fun _ _ _ _ h => h, ?_⟩
    rcases Nat.eq_zero_or_pos ps.length with h0 | h0
    · exact next_empty h0
    · have := roots_pos h.good h0; omega
  | f + 1, c, st, hf, h => by
    unfold run
    cases hn : next ps c with
    | none => exact ⟨h, fun _ _ _ _ h => h, hn⟩
    | some p =>
      obtain ⟨k, i⟩ := p
      obtain ⟨h1, h2, h3⟩ := next_spec hn
      have hne := bad_ne h3
      have hr := roots_join h.good (by omega : k < ps.length) h2 hne
      obtain ⟨q1, q2, q3⟩ := run_made f (join c k i) (st ++ [⟨k, i, -1⟩]) (by omega) (h.join (by omega) h2 hne)
      exact ⟨q1, fun x y hx hy he => q2 x y hx hy (join_keep h.good hx hy he), q3⟩
/-- The closure: made of steps, with the given equations, and with no pair left. -/
theorem close_made {ps : List Tm} {es : List Eqn} (hin : ∀ e ∈ es, e.a ∈ ps ∧ e.b ∈ ps) :
    Made ps.length (close ps es).1 (close ps es).2 ∧ (∀ e ∈ es, One (close ps es).1 (Tm.pos ps e.a) (Tm.pos ps e.b)) ∧ next ps (close ps es).1 = none := by
  obtain ⟨g1, g2, g3⟩ := given_made es 0 (List.range ps.length) [] hin (Made.start _)
  obtain ⟨r1, r2, r3⟩ := run_made ps.length _ _ (roots_le _ _) g1
  rw [close_eq]
  exact ⟨r1, fun e he => r2 _ _ (Tm.pos_yes (hin e he).1).1 (Tm.pos_yes (hin e he).2).1 (g3 e he), r3⟩
/-- No pair is left: what is alike is in one class. -/
theorem none_alike {ps : List Tm} {c : List Nat} (h : next ps c = none) {k i : Nat} (hk : k < i) (hi : i < ps.length) (ha : alikeB ps c (ps[k]'(by omega)) ps[i] = true) : One c k i := by
  unfold next at h
  rw [List.findSome?_eq_none_iff] at h
  have h1 := h i (List.mem_range.2 hi)
  rw [Option.map_eq_none_iff, List.find?_eq_none] at h1
  have h2 := h1 k (List.mem_range.2 hk)
  unfold badB at h2
  rw [List.getElem?_eq_getElem (by omega), List.getElem?_eq_getElem hi] at h2
  simp only [ha, Bool.and_true, bne_iff_ne, ne_eq, Decidable.not_not] at h2
  exact h2
end Clo
end Go.Proofs.Ytblbommhodondaa
