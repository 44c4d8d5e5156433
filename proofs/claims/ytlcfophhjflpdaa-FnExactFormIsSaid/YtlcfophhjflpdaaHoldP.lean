/- What a form says of values of its atoms, plain. -/
import Derived.Test.YtlcfophhjflpdaaFormB
namespace Go.Proofs.Ytlcfophhjflpdaa
open Go Go.RowKit
set_option linter.unusedVariables false
set_option linter.unusedSimpArgs false

def valA : List Atm → List Bool → Atm → Bool
  | y :: l, b :: vs, x => if eqV y.cd x.cd = true then b else valA l vs x
  | _, _, _ => false
theorem valA_at : ∀ (l : List Atm) (vs : List Bool) (x : Atm) (k : Nat) (h : k < l.length) (h' : k < vs.length), eqV l[k].cd x.cd = true → (l.take k).all (fun t => !eqV t.cd x.cd) = true → valA l vs x = vs[k]
  | [], _, _, k, h, _, _, _ => absurd h (by simp)
  | y :: l, [], _, k, _, h', _, _ => absurd h' (by simp)
  | y :: l, b :: vs, x, 0, _, _, e, _ => by simp only [List.getElem_cons_zero] at e ⊢; simp [valA, e]
  | y :: l, b :: vs, x, k + 1, h, h', e, ha => by
    simp only [List.take_succ_cons, List.all_cons, Bool.and_eq_true, Bool.not_eq_true'] at ha
    simp only [List.getElem_cons_succ] at e ⊢
    rw [← valA_at l vs x k (by simpa using h) (by simpa using h') e ha.2]
    simp [valA, ha.1]
theorem valA_first {l : List Atm} {vs : List Bool} {x : Atm} {n : Int} (hl : l.length = vs.length) (h : FirstOf (fun y => eqV y.cd x.cd) l n) (hx : hasA l x = true) : ∃ (k : Nat) (h : k < vs.length), n = k ∧ valA l vs x = vs[k] := by
  have h0 := h.neg
  rcases h with ⟨rfl, h⟩ | ⟨k, hk, rfl, hp, ha⟩
  · have := h0.1 (by omega); rw [hx] at this; simp at this
  · exact ⟨k, by omega, rfl, valA_at l vs x k hk (by omega) hp ha⟩
def joinB (kind : Int) (a b : Bool) : Bool := if kind = 2 then !a else if kind = 3 then a && b else if kind = 4 then a || b else if kind = 5 then !a || b else a == b
mutual
def Fm.holds (p : Atm → Bool) : Fm → Bool
  | .mk kind lit kids => if kind = 1 then p lit.atom != lit.no else joinB kind ((Fm.holdsL p kids).getD 0 false) ((Fm.holdsL p kids).getD 1 false)
def Fm.holdsL (p : Atm → Bool) : List Fm → List Bool
  | [] => []
  | k :: ks => Fm.holds p k :: Fm.holdsL p ks
end
theorem Fm.holdsL_map (p : Atm → Bool) : ∀ (ks : List Fm), Fm.holdsL p ks = ks.map (Fm.holds p)
  | [] => by simp [Fm.holdsL]
  | k :: ks => by simp only [Fm.holdsL, List.map_cons, Fm.holdsL_map p ks]
theorem Fm.holds_eq (p : Atm → Bool) (f : Fm) : Fm.holds p f = if f.kind = 1 then p f.lit.atom != f.lit.no else joinB f.kind ((f.kids.map (Fm.holds p)).getD 0 false) ((f.kids.map (Fm.holds p)).getD 1 false) := by
  cases f; simp only [Fm.holds, Fm.kind, Fm.lit, Fm.kids, Fm.holdsL_map]; rfl
mutual
def Fm.has (l : List Atm) : Fm → Bool
  | .mk kind lit kids => if kind = 1 then hasA l lit.atom else Fm.hass l kids
def Fm.hass (l : List Atm) : List Fm → Bool
  | [] => true
  | k :: ks => Fm.has l k && Fm.hass l ks
end
theorem Fm.hass_all (l : List Atm) : ∀ (ks : List Fm), Fm.hass l ks = ks.all (Fm.has l)
  | [] => by simp [Fm.hass]
  | k :: ks => by simp only [Fm.hass, List.all_cons, Fm.hass_all l ks]
theorem Fm.has_eq (l : List Atm) (f : Fm) : Fm.has l f = if f.kind = 1 then hasA l f.lit.atom else f.kids.all (Fm.has l) := by
  cases f; simp only [Fm.has, Fm.kind, Fm.lit, Fm.kids, Fm.hass_all]; rfl
theorem hasA_mono {l l' : List Atm} {x : Atm} (h : ∀ y ∈ l, y ∈ l') (hx : hasA l x = true) : hasA l' x = true := by
  unfold hasA at hx ⊢
  rw [List.any_eq_true] at hx ⊢
  obtain ⟨y, hy, e⟩ := hx
  exact ⟨y, h y hy, e⟩
mutual
theorem Fm.add_sub : ∀ (f : Fm) (l : List Atm), ∀ y ∈ l, y ∈ Fm.add l f
  | .mk kind lit kids, l, y, hy => by
    simp only [Fm.add]
    split
    · exact List.mem_append_left _ hy
    · exact Fm.adds_sub kids l y hy
theorem Fm.adds_sub : ∀ (ks : List Fm) (l : List Atm), ∀ y ∈ l, y ∈ Fm.adds l ks
  | [], l, y, hy => by simpa [Fm.adds] using hy
  | k :: ks, l, y, hy => by
    simp only [Fm.adds]
    exact Fm.adds_sub ks _ y (Fm.add_sub k l y hy)
end
mutual
theorem Fm.has_mono : ∀ (f : Fm) {l l' : List Atm}, (∀ y ∈ l, y ∈ l') → Fm.has l f = true → Fm.has l' f = true
  | .mk kind lit kids, l, l', h, hf => by
    simp only [Fm.has] at hf ⊢
    split at hf
    · rename_i hk; rw [if_pos hk]; exact hasA_mono h hf
    · rename_i hk; rw [if_neg hk]; exact Fm.hass_mono kids h hf
theorem Fm.hass_mono : ∀ (ks : List Fm) {l l' : List Atm}, (∀ y ∈ l, y ∈ l') → Fm.hass l ks = true → Fm.hass l' ks = true
  | [], l, l', h, hf => by simp [Fm.hass]
  | k :: ks, l, l', h, hf => by
    simp only [Fm.hass, Bool.and_eq_true] at hf ⊢
    exact ⟨Fm.has_mono k h hf.1, Fm.hass_mono ks h hf.2⟩
end
mutual
theorem Fm.add_has : ∀ (f : Fm) (d : Nat) (l : List Atm), Fm.shape d f = true → Fm.has (Fm.add l f) f = true
  | .mk kind lit kids, d, l, h => by
    simp only [Fm.shape] at h
    split at h
    · simp at h
    rename_i h0
    simp only [not_or, Decidable.not_not] at h0
    simp only [Fm.has, Fm.add]
    by_cases hk : kind = 1
    · subst hk
      have hn : kids.length = 0 := by have := h0.2; simp [Fm.nk] at this; omega
      obtain rfl := List.eq_nil_of_length_eq_zero hn
      cases hh : hasA l lit.atom
      · simp only [hh, true_and, if_true]
        unfold hasA
        rw [List.any_eq_true]
        exact ⟨lit.atom, by simp, by rw [eqV_iff]⟩
      · simp [hh, Fm.adds]
    · rw [if_neg hk] at h
      rw [if_neg hk, if_neg (fun h => hk h.1)]
      simp only [Bool.and_eq_true] at h
      exact Fm.adds_has kids (d - 1) l h.1
theorem Fm.adds_has : ∀ (ks : List Fm) (d : Nat) (l : List Atm), Fm.shapes d ks = true → Fm.hass (Fm.adds l ks) ks = true
  | [], d, l, h => by simp [Fm.hass]
  | k :: ks, d, l, h => by
    simp only [Fm.shapes, Bool.and_eq_true] at h
    simp only [Fm.adds, Fm.hass, Bool.and_eq_true]
    exact ⟨Fm.has_mono k (fun y hy => Fm.adds_sub ks _ y hy) (Fm.add_has k d l h.1), Fm.adds_has ks d _ h.2⟩
end
theorem Fm.okF_shape {f : Fm} (h : f.okF = true) : Fm.shape 5 f = true := by
  rw [Fm.okF_right] at h
  simp only [Fm.rightF, Bool.and_eq_true] at h
  exact h.1.1
theorem Fm.okF_has {f : Fm} (h : f.okF = true) : Fm.has (Fm.add [] f) f = true := Fm.add_has f 5 [] (Fm.okF_shape h)
/-- What FormIs answers: the value, and whether there is one. -/
def isF (f : Fm) (vs : List Bool) : Bool × Bool := if f.okF = true ∧ (Fm.add [] f).length = vs.length then (Fm.holds (valA (Fm.add [] f) vs) f, true) else (false, false)
theorem isF_no {f : Fm} {vs : List Bool} (h : f.okF = false) : isF f vs = (false, false) := by unfold isF; rw [if_neg (by simp [h])]
theorem isF_len {f : Fm} {vs : List Bool} (h : ¬ (Fm.add [] f).length = vs.length) : isF f vs = (false, false) := by unfold isF; rw [if_neg (by simp [h])]
theorem isF_yes {f : Fm} {vs : List Bool} (h : f.okF = true) (h' : (Fm.add [] f).length = vs.length) : isF f vs = (Fm.holds (valA (Fm.add [] f) vs) f, true) := if_pos ⟨h, h'⟩
theorem Fm.shape_parts {f : Fm} {d : Nat} (h : Fm.shape d f = true) : 1 ≤ d ∧ Fm.nk f.kind = (f.kids.length : Int) ∧ (¬ f.kind = 1 → ∀ k ∈ f.kids, Fm.shape (d - 1) k = true) := by
  rw [Fm.shape_eq] at h
  split at h
  · simp at h
  rename_i h0
  simp only [not_or, Decidable.not_not] at h0
  refine ⟨by omega, h0.2, fun hk k hm => ?_⟩
  rw [if_neg hk, Fm.shapes_all, Bool.and_eq_true, List.all_eq_true] at h
  exact h.1 k hm
theorem Fm.has_kids {f : Fm} {l : List Atm} (h : Fm.has l f = true) (hk : ¬ f.kind = 1) : ∀ k ∈ f.kids, Fm.has l k = true := by
  rw [Fm.has_eq, if_neg hk, List.all_eq_true] at h
  exact h
theorem Fm.has_lit {f : Fm} {l : List Atm} (h : Fm.has l f = true) (hk : f.kind = 1) : hasA l f.lit.atom = true := by
  rwa [Fm.has_eq, if_pos hk] at h
end Go.Proofs.Ytlcfophhjflpdaa
