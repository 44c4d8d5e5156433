/- Parts of the proof: FormP. -/
import Derived.Test.YtoehhbkhdddeeaaGreatDoorPf21
import Derived.Test.YtoehhbkhdddeeaaGreatDoorPf10
import Derived.Test.YtoehhbkhdddeeaaGreatDoorPf8
section
namespace Go.Proofs.YtoehhbkhdddeeaaGreatDoor
open Go Go.RowKit
set_option linter.unusedVariables false
set_option linter.unusedSimpArgs false
set_option maxRecDepth 100000
set_option maxHeartbeats 16000000
def Atm.zero : Atm := ⟨0, .mk ⟨#[]⟩ [], .mk ⟨#[]⟩ [], [], [], 0, false⟩
def Fm.nk (k : Int) : Int := if k = 1 then 0 else if k = 2 then 1 else if k = 3 then 2 else if k = 4 then 2 else if k = 5 then 2 else if k = 6 then 2 else -1
theorem Fm.nk_zero {k : Int} : Fm.nk k = 0 ↔ k = 1 := by
 unfold Fm.nk
 by_cases h1 : k = 1
 ·simp [h1]
 ·rw [if_neg h1]
  repeat' split
  all_goals (constructor <;> intro h <;> omega)
def Lt.bare (l : Lt) : Bool := !l.no && eqV l.atom.cd Atm.zero.cd
def hasA (l : List Atm) (x : Atm) : Bool := l.any (fun y => eqV y.cd x.cd)
theorem zdf (a b : List CD) : eqV a b = eqV b a := by rw [Bool.eq_iff_iff, zac, zac]; exact eq_comm
mutual
def Fm.sz : Nat → Fm → Nat
 | d, .mk kind lit kids => if d > 5 ∨ Fm.nk kind ≠ (kids.length : Int) ∨ (Fm.nk kind = 0 ∧ lit.atom.okB = false) ∨ (Fm.nk kind ≠ 0 ∧ lit.bare = false) then 11 else 1 + Fm.szs (d + 1) kids
def Fm.szs : Nat → List Fm → Nat
 | _, [] => 0
 | d, k :: ks => Fm.sz d k + Fm.szs d ks
end
mutual
def Fm.add : List Atm → Fm → List Atm
 | l, .mk kind lit kids => if kind = 1 ∧ hasA l lit.atom = false then l ++ [lit.atom] else Fm.adds l kids
def Fm.adds : List Atm → List Fm → List Atm
 | l, [] => l
 | l, k :: ks => Fm.adds (Fm.add l k) ks
end
mutual
def Fm.tell : List Atm → Fm → List Atm
 | l, .mk kind lit kids => if kind = 1 then (if hasA l lit.atom = true then l else l ++ [lit.atom]) else Fm.tells l kids
def Fm.tells : List Atm → List Fm → List Atm
 | l, [] => l
 | l, k :: ks => Fm.tells (Fm.tell l k) ks
end
mutual
def Fm.shape : Nat → Fm → Bool
 | d, .mk kind lit kids => if d < 1 ∨ Fm.nk kind ≠ (kids.length : Int) then false else if kind = 1 then lit.atom.okB else Fm.shapes (d - 1) kids && lit.bare
def Fm.shapes : Nat → List Fm → Bool
 | _, [] => true
 | d, k :: ks => Fm.shape d k && Fm.shapes d ks
end
mutual
def Fm.many : Nat → Fm → Nat
 | d, .mk _ _ kids => 1 + (if 0 < d then Fm.manys (d - 1) kids else 0)
def Fm.manys : Nat → List Fm → Nat
 | _, [] => 0
 | d, k :: ks => Fm.many d k + Fm.manys d ks
end
theorem Fm.sz_eq (d : Nat) (f : Fm) : Fm.sz d f = if d > 5 ∨ Fm.nk f.kind ≠ (f.kids.length : Int) ∨ (Fm.nk f.kind = 0 ∧ f.lit.atom.okB = false) ∨ (Fm.nk f.kind ≠ 0 ∧ f.lit.bare = false) then 11 else 1 + Fm.szs (d + 1) f.kids := by cases f; simp only [Fm.sz, Fm.kind, Fm.lit, Fm.kids]; rfl
theorem Fm.add_eq (l : List Atm) (f : Fm) : Fm.add l f = if f.kind = 1 ∧ hasA l f.lit.atom = false then l ++ [f.lit.atom] else Fm.adds l f.kids := by cases f; simp only [Fm.add, Fm.kind, Fm.lit, Fm.kids]; rfl
theorem Fm.shape_eq (d : Nat) (f : Fm) : Fm.shape d f = if d < 1 ∨ Fm.nk f.kind ≠ (f.kids.length : Int) then false else if f.kind = 1 then f.lit.atom.okB else Fm.shapes (d - 1) f.kids && f.lit.bare := by cases f; simp only [Fm.shape, Fm.kind, Fm.lit, Fm.kids]; rfl
theorem Fm.many_eq (d : Nat) (f : Fm) : Fm.many d f = 1 + (if 0 < d then Fm.manys (d - 1) f.kids else 0) := by cases f; simp only [Fm.many, Fm.kids]
theorem Fm.szs_append (d : Nat) : ∀ (a b : List Fm), Fm.szs d (a ++ b) = Fm.szs d a + Fm.szs d b
 | [], b => by simp [Fm.szs]
 | x :: a, b => by simp only [List.cons_append, Fm.szs, Fm.szs_append d a b]; omega
theorem Fm.adds_append : ∀ (a b : List Fm) (l : List Atm), Fm.adds l (a ++ b) = Fm.adds (Fm.adds l a) b
 | [], b, l => by simp [Fm.adds]
 | x :: a, b, l => by simp only [List.cons_append, Fm.adds, Fm.adds_append a b]
theorem Fm.shapes_all (d : Nat) : ∀ (a : List Fm), Fm.shapes d a = a.all (Fm.shape d)
 | [] => by simp [Fm.shapes]
 | x :: a => by simp only [Fm.shapes, List.all_cons, Fm.shapes_all d a]
theorem Fm.szs_succ (d : Nat) (ks : List Fm) (k : Nat) (h : k < ks.length) : Fm.szs d (ks.take (k + 1)) = Fm.szs d (ks.take k) + Fm.sz d ks[k] := by
 rw [zdR h, Fm.szs_append]; simp [Fm.szs]
theorem Fm.adds_succ (l : List Atm) (ks : List Fm) (k : Nat) (h : k < ks.length) : Fm.adds l (ks.take (k + 1)) = Fm.add (Fm.adds l (ks.take k)) ks[k] := by
 rw [zdR h, Fm.adds_append]; simp [Fm.adds]
theorem Fm.wt_eq (f : Fm) : wtV f.cd = wtV f.lit.cd + (f.kids.length + wtR (f.kids.map Fm.cd)) := by
 rw [Fm.cd_eq]; simp only [zR, zbW, zcW, zdX]; omega
mutual
theorem Fm.sz_le : ∀ (f : Fm) (d : Nat), Fm.sz d f ≤ 11 * (1 + wtV f.cd)
 | .mk kind lit kids, d => by
  have h := Fm.szs_le kids (d + 1)
  have h2 := Fm.wt_eq (.mk kind lit kids)
  simp only [Fm.kids, Fm.lit] at h2
  simp only [Fm.sz]
  split <;> omega
theorem Fm.szs_le : ∀ (ks : List Fm) (d : Nat), Fm.szs d ks ≤ 11 * (ks.length + wtR (ks.map Fm.cd))
 | [], d => by simp [Fm.szs]
 | k :: ks, d => by
  have h1 := Fm.sz_le k d
  have h2 := Fm.szs_le ks d
  simp only [Fm.szs, List.length_cons, List.map_cons, zaw]; omega
end
mutual
theorem Fm.add_len : ∀ (f : Fm) (l : List Atm), (Fm.add l f).length ≤ l.length + (1 + wtV f.cd)
 | .mk kind lit kids, l => by
  have h := Fm.adds_len kids l
  have h2 := Fm.wt_eq (.mk kind lit kids)
  simp only [Fm.kids, Fm.lit] at h2
  simp only [Fm.add]
  split
  ·simp only [zdU, List.length_cons, List.length_nil]; omega
  ·omega
theorem Fm.adds_len : ∀ (ks : List Fm) (l : List Atm), (Fm.adds l ks).length ≤ l.length + (ks.length + wtR (ks.map Fm.cd))
 | [], l => by simp [Fm.adds]
 | k :: ks, l => by
  have h1 := Fm.add_len k l
  have h2 := Fm.adds_len ks (Fm.add l k)
  simp only [Fm.adds, List.length_cons, List.map_cons, zaw]; omega
end
mutual
theorem Fm.sz_many : ∀ (f : Fm) (d : Nat), d ≤ 5 → (Fm.shape d f = true → Fm.sz (6 - d) f = Fm.many d f) ∧ (Fm.shape d f = false → 11 ≤ Fm.sz (6 - d) f)
 | .mk kind lit kids, d, hd => by
  simp only [Fm.shape, Fm.sz, Fm.many]
  by_cases h0 : d < 1
  ·rw [if_pos (.inl h0), if_pos (by omega)]
   exact ⟨fun h => absurd h (by simp), fun _ => Nat.le_refl _⟩
  by_cases h1 : Fm.nk kind = (kids.length : Int)
  ·rw [if_neg (by simp [h0, h1])]
   by_cases h2 : kind = 1
   ·have h3 : Fm.nk kind = 0 := Fm.nk_zero.2 h2
    have h4 : kids = [] := List.eq_nil_of_length_eq_zero (by omega)
    subst h4
    rw [if_pos h2]
    cases h5 : lit.atom.okB
    ·rw [if_pos (.inr (.inr (.inl ⟨h3, rfl⟩)))]
     exact ⟨fun h => absurd h (by simp), fun _ => Nat.le_refl _⟩
    ·rw [if_neg (by simp [h3]; omega)]
     refine ⟨fun _ => by simp [Fm.szs, Fm.manys], fun h => absurd h (by simp)⟩
   ·have h3 : Fm.nk kind ≠ 0 := fun h => h2 (Fm.nk_zero.1 h)
    rw [if_neg h2]
    cases h5 : lit.bare
    ·rw [if_pos (.inr (.inr (.inr ⟨h3, rfl⟩)))]
     exact ⟨fun h => absurd h (by simp), fun _ => Nat.le_refl _⟩
    ·rw [if_neg (by
      rintro (h | h | h | h)
      ·omega
      ·exact h h1
      ·exact h3 h.1
      ·exact absurd h.2 (by simp)), if_pos (by omega), Bool.and_true]
     have ih := Fm.szs_manys kids (d - 1) (by omega)
     have e : 6 - (d - 1) = 6 - d + 1 := by omega
     rw [e] at ih
     exact ⟨fun h => by rw [ih.1 h], fun h => by have := ih.2 h; omega⟩
  ·rw [if_pos (.inr h1), if_pos (.inr (.inl h1))]
   exact ⟨fun h => absurd h (by simp), fun _ => Nat.le_refl _⟩
theorem Fm.szs_manys : ∀ (ks : List Fm) (d : Nat), d ≤ 5 → (Fm.shapes d ks = true → Fm.szs (6 - d) ks = Fm.manys d ks) ∧ (Fm.shapes d ks = false → 11 ≤ Fm.szs (6 - d) ks)
 | [], d, hd => by simp [Fm.shapes, Fm.szs, Fm.manys]
 | k :: ks, d, hd => by
  have h1 := Fm.sz_many k d hd
  have h2 := Fm.szs_manys ks d hd
  simp only [Fm.shapes, Fm.szs, Fm.manys]
  cases hk : Fm.shape d k
  ·refine ⟨fun h => absurd h (by simp), fun _ => by have := h1.2 hk; omega⟩
  ·rw [Bool.true_and]
   exact ⟨fun h => by rw [h1.1 hk, h2.1 h], fun h => by have := h2.2 h; omega⟩
end
mutual
theorem Fm.add_tell : ∀ (f : Fm) (d : Nat) (l : List Atm), Fm.shape d f = true → Fm.add l f = Fm.tell l f
 | .mk kind lit kids, d, l => by
  simp only [Fm.shape, Fm.add, Fm.tell]
  intro h
  split at h
  ·simp at h
  ·rename_i hn
   by_cases h2 : kind = 1
   ·have h3 : Fm.nk kind = 0 := Fm.nk_zero.2 h2
    have h4 : kids = [] := List.eq_nil_of_length_eq_zero (by omega)
    subst h4
    rw [if_pos h2]
    cases h5 : hasA l lit.atom <;> simp [h2, Fm.adds]
   ·rw [if_neg h2] at h
    rw [if_neg h2, if_neg (by simp [h2])]
    simp only [zdY] at h
    exact Fm.adds_tells kids (d - 1) l h.1
theorem Fm.adds_tells : ∀ (ks : List Fm) (d : Nat) (l : List Atm), Fm.shapes d ks = true → Fm.adds l ks = Fm.tells l ks
 | [], d, l => by simp [Fm.adds, Fm.tells]
 | k :: ks, d, l => by
  simp only [Fm.shapes, zdY, Fm.adds, Fm.tells]
  intro h
  rw [Fm.add_tell k d l h.1, Fm.adds_tells ks d _ h.2]
end
def Fm.okF (f : Fm) : Bool := decide (Fm.sz 1 f ≤ 10) && decide ((Fm.add [] f).length ≤ 6)
def Fm.rightF (f : Fm) : Bool := (Fm.shape 5 f && decide (Fm.many 5 f ≤ 10)) && decide ((Fm.tell [] f).length ≤ 6)
theorem Fm.okF_right (f : Fm) : f.okF = f.rightF := by
 have h := Fm.sz_many f 5 (Nat.le_refl _)
 unfold Fm.okF Fm.rightF
 cases hs : Fm.shape 5 f
 ·have h1 := h.2 hs
  rw [show (6 - 5 : Nat) = 1 from rfl] at h1
  have h2 : ¬ Fm.sz 1 f ≤ 10 := by omega
  simp [h2]
 ·have h1 := h.1 hs
  rw [Fm.add_tell f 5 [] hs, Bool.true_and]
  rw [show (6 - 5 : Nat) = 1 from rfl] at h1
  rw [h1]
/-- The place of the first of which p is so, or -1. -/
def FirstOf {α : Type} (p : α → Bool) (l : List α) (n : Int) : Prop := (n = -1 ∧ l.all (fun t => !p t) = true) ∨ ∃ (k : Nat) (h : k < l.length), n = k ∧ p l[k] = true ∧ (l.take k).all (fun t => !p t) = true
theorem FirstOf.succ {α : Type} {p : α → Bool} {l : List α} {k : Nat} (hk : k < l.length) (h : (l.take k).all (fun t => !p t) = true) (h' : p l[k] = false) : (l.take (k + 1)).all (fun t => !p t) = true := by
 rw [zdR hk, List.all_append, h]; simp [h']
theorem FirstOf.bd {α : Type} {p : α → Bool} {l : List α} {n : Int} (h : FirstOf p l n) : -1 ≤ n ∧ n < l.length := by
 rcases h with ⟨rfl, _⟩ | ⟨k, hk, rfl, _⟩ <;> constructor <;> omega
theorem FirstOf.neg {x : Atm} {l : List Atm} {n : Int} (h : FirstOf (fun y => eqV y.cd x.cd) l n) : n < 0 ↔ hasA l x = false := by
 rcases h with ⟨rfl, h⟩ | ⟨k, hk, rfl, h, _⟩
 ·refine ⟨fun _ => ?_, fun _ => by omega⟩
  unfold hasA; rw [List.any_eq_false]
  intro y hy; rw [List.all_eq_true] at h; simpa using h y hy
 ·refine ⟨fun h => by omega, fun h' => ?_⟩
  unfold hasA at h'; rw [List.any_eq_false] at h'
  exact absurd h (h' l[k] (zdT hk))
end Go.Proofs.YtoehhbkhdddeeaaGreatDoor
end
