/- Parts of terms, plain laws: parts come first, each once; the parts of parts. No program in sight. -/
import Derived.Test.YtblbommhodondaaTerm
namespace Go.Proofs.Ytblbommhodondaa
open Go Go.RowKit
set_option linter.unusedVariables false
set_option linter.unusedSimpArgs false

namespace Tm
/-- Each stands behind its kids, and once. -/
def Ord (l : List Tm) : Prop := ∀ i (h : i < l.length), (∀ k ∈ l[i].kids, k ∈ l.take i) ∧ l[i] ∉ l.take i
theorem Ord.nil : Ord [] := fun i h => by simp at h
theorem Ord.snoc {l : List Tm} (h : Ord l) {t : Tm} (hk : ∀ k ∈ t.kids, k ∈ l) (hn : t ∉ l) : Ord (l ++ [t]) := by
  intro i hi
  rw [List.length_append, List.length_singleton] at hi
  rcases Nat.lt_or_ge i l.length with h1 | h1
  · have h2 := h i h1
    rw [List.getElem_append_left h1, List.take_append_of_le_length (by omega)]
    exact h2
  · obtain rfl : i = l.length := by omega
    rw [List.getElem_append_right (Nat.le_refl _), List.take_left]
    simp only [Nat.sub_self, List.getElem_cons_zero]
    exact ⟨hk, hn⟩
mutual
theorem addP_ord : ∀ (t : Tm) (l : List Tm), Ord l → Ord (addP l t)
  | .mk n ks, l, h => by
    have h1 := addPs_ord ks l h
    have h2 := addPs_all ks l
    simp only [addP]
    split
    · exact h1
    · rename_i hm
      refine h1.snoc (fun k hk => ?_) hm
      exact ((allIn_eq _ _).1 ((allIns_iff _ _).1 h2 k hk)).1
theorem addPs_ord : ∀ (ts l : List Tm), Ord l → Ord (addPs l ts)
  | [], l, h => by simpa [addPs] using h
  | t :: ts, l, h => by simp only [addPs]; exact addPs_ord ts _ (addP_ord t l h)
end
theorem parts_ord (ts : List Tm) : Ord (parts ts) := by
  unfold parts
  split
  · exact addPs_ord ts [] Ord.nil
  · exact Ord.nil
/-- What is in such a list has all its parts in it, as far as it stands. -/
theorem Ord.closed {l : List Tm} (h : Ord l) : ∀ (n i : Nat) (hi : i < l.length), i ≤ n → allIn (l.take (i + 1)) l[i] := by
  intro n
  induction n with
  | zero =>
    intro i hi hn
    obtain rfl : i = 0 := by omega
    refine (allIn_eq _ _).2 ⟨?_, (allIns_iff _ _).2 fun k hk => ?_⟩
    · rw [List.take_succ_eq_append_getElem hi]; simp
    · have := (h 0 hi).1 k hk; simp at this
  | succ n ih =>
    intro i hi hn
    refine (allIn_eq _ _).2 ⟨?_, (allIns_iff _ _).2 fun k hk => ?_⟩
    · exact List.mem_iff_getElem.2 ⟨i, by rw [List.length_take]; omega, by rw [List.getElem_take]⟩
    · have h1 := (h i hi).1 k hk
      obtain ⟨j, hj, rfl⟩ := List.mem_iff_getElem.1 h1
      rw [List.length_take] at hj
      have h2 := ih j (by omega) (by omega)
      rw [List.getElem_take]
      exact allIn_mono (fun x hx => List.mem_of_mem_take (i := j + 1) (by rw [List.take_take, Nat.min_eq_left (by omega)]; exact hx)) _ h2
theorem Ord.again {l : List Tm} (h : Ord l) : ∀ i, i ≤ l.length → addPs [] (l.take i) = l.take i := by
  intro i
  induction i with
  | zero => intro _; simp [addPs]
  | succ i ih =>
    intro hi
    rw [addPs_succ _ _ _ (by omega), ih (by omega), List.take_succ_eq_append_getElem (by omega), addP_eq]
    have h1 := h i (by omega)
    have h2 : allIns (l.take i) l[i].kids := (allIns_iff _ _).2 fun k hk => by
      obtain ⟨j, hj, rfl⟩ := List.mem_iff_getElem.1 (h1.1 k hk)
      rw [List.length_take] at hj
      rw [List.getElem_take]
      exact allIn_mono (fun x hx => List.mem_of_mem_take (i := j + 1) (by rw [List.take_take, Nat.min_eq_left (by omega)]; exact hx)) _ (h.closed j j (by omega) (Nat.le_refl _))
    rw [addPs_id _ _ h2, if_neg h1.2]
mutual
theorem shape_mono : ∀ (t : Tm) (d e : Int), d ≤ e → shape t d = true → shape t e = true
  | .mk n ks, d, e, hd, h => by
    simp only [shape, Bool.and_eq_true, decide_eq_true_eq] at h ⊢
    exact ⟨⟨⟨by omega, h.1.1.2⟩, h.1.2⟩, shapes_mono ks (d - 1) (e - 1) (by omega) h.2⟩
theorem shapes_mono : ∀ (ts : List Tm) (d e : Int), d ≤ e → shapes ts d = true → shapes ts e = true
  | [], d, e, _, _ => by simp [shapes]
  | t :: ts, d, e, hd, h => by
    simp only [shapes, Bool.and_eq_true] at h ⊢
    exact ⟨shape_mono t d e hd h.1, shapes_mono ts d e hd h.2⟩
end
theorem wf_kid {t k : Tm} (h : wf t = true) (hk : k ∈ t.kids) : wf k = true := by
  unfold wf at h ⊢
  rw [shape_eq] at h
  simp only [Bool.and_eq_true, decide_eq_true_eq] at h ⊢
  have h1 := h.1.2
  rw [shapes_all, List.all_eq_true] at h1
  exact ⟨shape_mono k 3 4 (by omega) (h1 k hk), by have := size_kid_mem hk; omega⟩
theorem wf_kids {t : Tm} (h : wf t = true) : t.kids.all wf = true := by
  rw [List.all_eq_true]; exact fun k hk => wf_kid h hk
/-- What comes in by a property that goes down to the kids has that property. -/
theorem addP_pred {p : Tm → Prop} (hp : ∀ t, p t → ∀ k ∈ t.kids, p k) : ∀ (n : Nat) (t : Tm) (l : List Tm), t.size ≤ n → p t → (∀ x ∈ l, p x) → ∀ x ∈ addP l t, p x := by
  intro n
  induction n with
  | zero => intro t; have := t.size_pos; omega
  | succ n ih =>
    intro t l hn ht hl
    have hk : ∀ (ks l : List Tm), (∀ k ∈ ks, k.size ≤ n ∧ p k) → (∀ x ∈ l, p x) → ∀ x ∈ addPs l ks, p x := by
      intro ks
      induction ks with
      | nil => intro l _ hl; simpa [addPs] using hl
      | cons k ks ihk =>
        intro l hks hl
        simp only [addPs]
        exact ihk _ (fun q hq => hks q (List.mem_cons_of_mem _ hq)) (ih k l (hks k (by simp)).1 (hks k (by simp)).2 hl)
    have h1 := hk t.kids l (fun k hk' => ⟨by have := size_kid_mem hk'; omega, hp t ht k hk'⟩) hl
    rw [addP_eq]
    split
    · exact h1
    · intro x hx
      rcases List.mem_append.1 hx with hx | hx
      · exact h1 x hx
      · rw [List.mem_singleton.1 hx]; exact ht
theorem addPs_pred {p : Tm → Prop} (hp : ∀ t, p t → ∀ k ∈ t.kids, p k) : ∀ (ts l : List Tm), (∀ t ∈ ts, p t) → (∀ x ∈ l, p x) → ∀ x ∈ addPs l ts, p x
  | [], l, _, hl => by simpa [addPs] using hl
  | t :: ts, l, h, hl => by
    simp only [addPs]
    exact addPs_pred hp ts _ (fun q hq => h q (List.mem_cons_of_mem _ hq)) (addP_pred hp t.size t l (Nat.le_refl _) (h t (by simp)) hl)
theorem parts_wf (ts : List Tm) : (parts ts).all wf = true := by
  unfold parts
  split
  · rename_i h
    rw [List.all_eq_true] at h ⊢
    exact addPs_pred (p := fun t => wf t = true) (fun t h k hk => wf_kid h hk) ts [] h (by simp)
  · rfl
/-- The parts of parts are the same. -/
theorem parts_again (ts : List Tm) : parts (parts ts) = parts ts := by
  have h1 : ∀ l : List Tm, l.all wf = true → parts l = addPs [] l := fun l h => if_pos h
  rw [h1 _ (parts_wf ts)]
  have := (parts_ord ts).again (parts ts).length (Nat.le_refl _)
  rwa [List.take_of_length_le (Nat.le_refl _)] at this
theorem parts_mem {ts : List Tm} (h : 0 < (parts ts).length) {t : Tm} (ht : t ∈ ts) : t ∈ parts ts := by
  unfold parts at h ⊢
  split at h
  · rename_i hw
    rw [if_pos hw]
    exact ((allIn_eq _ _).1 ((allIns_iff _ _).1 (addPs_all ts []) t ht)).1
  · simp at h
/-- The parts of a term: those of its kids, and itself behind them. -/
theorem parts_one (t : Tm) : parts [t] = if t.wf = true then parts t.kids ++ [t] else [] := by
  by_cases h : t.wf = true
  · rw [if_pos h]
    unfold parts
    rw [if_pos (by simp [h]), if_pos (wf_kids h)]
    simp only [addPs]
    rw [addP_eq, if_neg]
    intro hm
    have := addPs_pred (p := fun x => x.size < t.size) (fun x hx k hk => by have := size_kid_mem hk; omega) t.kids [] (fun k hk => size_kid_mem hk) (by simp) t hm
    omega
  · rw [if_neg h]
    unfold parts
    rw [if_neg (by simp [h])]
theorem parts_len (ts : List Tm) : (parts ts).length ≤ sizes ts := by
  unfold parts
  split
  · have := addPs_len ts []; simpa using this
  · simp
end Tm
end Go.Proofs.Ytblbommhodondaa
