/- Parts of the proof: FormP SameA SameB SameC FormW OwnF FormA FormB. -/
import Derived.Test.YtbfinjiledfpcaaGreatPT6
import Derived.Test.YtbfinjiledfpcaaGreatPT4
import Derived.Test.YtbfinjiledfpcaaGreatPT3
import Derived.Test.YtbfinjiledfpcaaGreatPT7
import Derived.Test.YtbfinjiledfpcaaGreatPT8
section
namespace Go.Proofs.YtbfinjiledfpcaaGreat
open Go Go.RowKit
set_option linter.unusedVariables false
set_option linter.unusedSimpArgs false
set_option maxRecDepth 100000
set_option maxHeartbeats 16000000
def Atm.zero : Atm := ⟨0, .mk ⟨#[]⟩ [], .mk ⟨#[]⟩ [], [], [], 0, false⟩
def Fm.nk (k : Int) : Int := if k = 1 then 0 else if k = 2 then 1 else if k = 3 then 2 else if k = 4 then 2 else if k = 5 then 2 else if k = 6 then 2 else -1
theorem Fm.nk_zero {k : Int} : Fm.nk k = 0 ↔ k = 1 := by
 unfold Fm.nk
 by_cases h1 : k = 1
 ·simp [h1]
 ·rw [if_neg h1]
  repeat' split
  all_goals (constructor <;> intro h <;> omega)
def Lt.bare (l : Lt) : Bool := !l.no && eqV l.M.cd Atm.zero.cd
def hasA (l : List Atm) (x : Atm) : Bool := l.any (fun y => eqV y.cd x.cd)
theorem eqV_comm (a b : List CD) : eqV a b = eqV b a := by rw [Bool.eq_iff_iff, zaH, zaH]; exact eq_comm
mutual
def Fm.sz : Nat → Fm → Nat
 | d, .mk kind lit kids => if d > 5 ∨ Fm.nk kind ≠ (kids.length : Int) ∨ (Fm.nk kind = 0 ∧ lit.M.okB = false) ∨ (Fm.nk kind ≠ 0 ∧ lit.bare = false) then 11 else 1 + Fm.szs (d + 1) kids
def Fm.szs : Nat → List Fm → Nat
 | _, [] => 0
 | d, k :: ks => Fm.sz d k + Fm.szs d ks
end
mutual
def Fm.add : List Atm → Fm → List Atm
 | l, .mk kind lit kids => if kind = 1 ∧ hasA l lit.M = false then l ++ [lit.M] else Fm.adds l kids
def Fm.adds : List Atm → List Fm → List Atm
 | l, [] => l
 | l, k :: ks => Fm.adds (Fm.add l k) ks
end
mutual
def Fm.tell : List Atm → Fm → List Atm
 | l, .mk kind lit kids => if kind = 1 then (if hasA l lit.M = true then l else l ++ [lit.M]) else Fm.tells l kids
def Fm.tells : List Atm → List Fm → List Atm
 | l, [] => l
 | l, k :: ks => Fm.tells (Fm.tell l k) ks
end
mutual
def Fm.shape : Nat → Fm → Bool
 | d, .mk kind lit kids => if d < 1 ∨ Fm.nk kind ≠ (kids.length : Int) then false else if kind = 1 then lit.M.okB else Fm.shapes (d - 1) kids && lit.bare
def Fm.shapes : Nat → List Fm → Bool
 | _, [] => true
 | d, k :: ks => Fm.shape d k && Fm.shapes d ks
end
mutual
def Fm.many : Nat → Fm → Nat
 | d, .mk _ _ kids => 1 + (if 0 < d then Fm.manys (d - 1) kids else 0)
def Fm.manys : Nat → List Fm → Nat
 | _, [] => 0
 | d, k :: ks => Fm.many d k + Fm.manys d ks
end
theorem Fm.sz_eq (d : Nat) (f : Fm) : Fm.sz d f = if d > 5 ∨ Fm.nk f.kind ≠ (f.K.length : Int) ∨ (Fm.nk f.kind = 0 ∧ f.L.M.okB = false) ∨ (Fm.nk f.kind ≠ 0 ∧ f.L.bare = false) then 11 else 1 + Fm.szs (d + 1) f.K := by cases f; simp only [Fm.sz, Fm.kind, Fm.L, Fm.K]; rfl
theorem Fm.add_eq (l : List Atm) (f : Fm) : Fm.add l f = if f.kind = 1 ∧ hasA l f.L.M = false then l ++ [f.L.M] else Fm.adds l f.K := by cases f; simp only [Fm.add, Fm.kind, Fm.L, Fm.K]; rfl
theorem Fm.tell_eq (l : List Atm) (f : Fm) : Fm.tell l f = if f.kind = 1 then (if hasA l f.L.M = true then l else l ++ [f.L.M]) else Fm.tells l f.K := by cases f; simp only [Fm.tell, Fm.kind, Fm.L, Fm.K]; rfl
theorem Fm.shape_eq (d : Nat) (f : Fm) : Fm.shape d f = if d < 1 ∨ Fm.nk f.kind ≠ (f.K.length : Int) then false else if f.kind = 1 then f.L.M.okB else Fm.shapes (d - 1) f.K && f.L.bare := by cases f; simp only [Fm.shape, Fm.kind, Fm.L, Fm.K]; rfl
theorem Fm.many_eq (d : Nat) (f : Fm) : Fm.many d f = 1 + (if 0 < d then Fm.manys (d - 1) f.K else 0) := by cases f; simp only [Fm.many, Fm.K]
theorem Fm.szs_append (d : Nat) : ∀ (a b : List Fm), Fm.szs d (a ++ b) = Fm.szs d a + Fm.szs d b
 | [], b => by simp [Fm.szs]
 | x :: a, b => by simp only [List.cons_append, Fm.szs, Fm.szs_append d a b]; omega
theorem Fm.manys_append (d : Nat) : ∀ (a b : List Fm), Fm.manys d (a ++ b) = Fm.manys d a + Fm.manys d b
 | [], b => by simp [Fm.manys]
 | x :: a, b => by simp only [List.cons_append, Fm.manys, Fm.manys_append d a b]; omega
theorem Fm.adds_append : ∀ (a b : List Fm) (l : List Atm), Fm.adds l (a ++ b) = Fm.adds (Fm.adds l a) b
 | [], b, l => by simp [Fm.adds]
 | x :: a, b, l => by simp only [List.cons_append, Fm.adds, Fm.adds_append a b]
theorem Fm.tells_append : ∀ (a b : List Fm) (l : List Atm), Fm.tells l (a ++ b) = Fm.tells (Fm.tells l a) b
 | [], b, l => by simp [Fm.tells]
 | x :: a, b, l => by simp only [List.cons_append, Fm.tells, Fm.tells_append a b]
theorem Fm.shapes_all (d : Nat) : ∀ (a : List Fm), Fm.shapes d a = a.all (Fm.shape d)
 | [] => by simp [Fm.shapes]
 | x :: a => by simp only [Fm.shapes, List.all_cons, Fm.shapes_all d a]
theorem Fm.szs_succ (d : Nat) (ks : List Fm) (k : Nat) (h : k < ks.length) : Fm.szs d (ks.take (k + 1)) = Fm.szs d (ks.take k) + Fm.sz d ks[k] := by
 rw [zgf h, Fm.szs_append]; simp [Fm.szs]
theorem Fm.manys_succ (d : Nat) (ks : List Fm) (k : Nat) (h : k < ks.length) : Fm.manys d (ks.take (k + 1)) = Fm.manys d (ks.take k) + Fm.many d ks[k] := by
 rw [zgf h, Fm.manys_append]; simp [Fm.manys]
theorem Fm.adds_succ (l : List Atm) (ks : List Fm) (k : Nat) (h : k < ks.length) : Fm.adds l (ks.take (k + 1)) = Fm.add (Fm.adds l (ks.take k)) ks[k] := by
 rw [zgf h, Fm.adds_append]; simp [Fm.adds]
theorem Fm.tells_succ (l : List Atm) (ks : List Fm) (k : Nat) (h : k < ks.length) : Fm.tells l (ks.take (k + 1)) = Fm.tell (Fm.tells l (ks.take k)) ks[k] := by
 rw [zgf h, Fm.tells_append]; simp [Fm.tells]
theorem Fm.wt_eq (f : Fm) : wtV f.cd = wtV f.L.cd + (f.K.length + wtR (f.K.map Fm.cd)) := by
 rw [Fm.cd_eq]; simp only [zI, zaS, zaj, zgl]; omega
mutual
theorem Fm.sz_le : ∀ (f : Fm) (d : Nat), Fm.sz d f ≤ 11 * (1 + wtV f.cd)
 | .mk kind lit kids, d => by
  have h := Fm.szs_le kids (d + 1); have h2 := Fm.wt_eq (.mk kind lit kids); simp only [Fm.K, Fm.L] at h2; simp only [Fm.sz]
  split <;> omega
theorem Fm.szs_le : ∀ (ks : List Fm) (d : Nat), Fm.szs d ks ≤ 11 * (ks.length + wtR (ks.map Fm.cd))
 | [], d => by simp [Fm.szs]
 | k :: ks, d => by
  have h1 := Fm.sz_le k d; have h2 := Fm.szs_le ks d; simp only [Fm.szs, zgw, List.map_cons, zX]; omega
end
mutual
theorem Fm.many_le : ∀ (f : Fm) (d : Nat), Fm.many d f ≤ 1 + wtV f.cd
 | .mk kind lit kids, d => by
  have h := Fm.manys_le kids (d - 1); have h2 := Fm.wt_eq (.mk kind lit kids); simp only [Fm.K, Fm.L] at h2; simp only [Fm.many]
  split <;> omega
theorem Fm.manys_le : ∀ (ks : List Fm) (d : Nat), Fm.manys d ks ≤ ks.length + wtR (ks.map Fm.cd)
 | [], d => by simp [Fm.manys]
 | k :: ks, d => by
  have h1 := Fm.many_le k d; have h2 := Fm.manys_le ks d; simp only [Fm.manys, zgw, List.map_cons, zX]; omega
end
mutual
theorem Fm.add_len : ∀ (f : Fm) (l : List Atm), (Fm.add l f).length ≤ l.length + (1 + wtV f.cd)
 | .mk kind lit kids, l => by
  have h := Fm.adds_len kids l; have h2 := Fm.wt_eq (.mk kind lit kids); simp only [Fm.K, Fm.L] at h2; simp only [Fm.add]
  split
  ·simp only [zgi, zgw, List.length_nil]; omega
  ·omega
theorem Fm.adds_len : ∀ (ks : List Fm) (l : List Atm), (Fm.adds l ks).length ≤ l.length + (ks.length + wtR (ks.map Fm.cd))
 | [], l => by simp [Fm.adds]
 | k :: ks, l => by
  have h1 := Fm.add_len k l; have h2 := Fm.adds_len ks (Fm.add l k); simp only [Fm.adds, zgw, List.map_cons, zX]; omega
end
mutual
theorem Fm.tell_len : ∀ (f : Fm) (l : List Atm), (Fm.tell l f).length ≤ l.length + (1 + wtV f.cd)
 | .mk kind lit kids, l => by
  have h := Fm.tells_len kids l; have h2 := Fm.wt_eq (.mk kind lit kids); simp only [Fm.K, Fm.L] at h2; simp only [Fm.tell]
  split
  ·split
   ·omega
   ·simp only [zgi, zgw, List.length_nil]; omega
  ·omega
theorem Fm.tells_len : ∀ (ks : List Fm) (l : List Atm), (Fm.tells l ks).length ≤ l.length + (ks.length + wtR (ks.map Fm.cd))
 | [], l => by simp [Fm.tells]
 | k :: ks, l => by
  have h1 := Fm.tell_len k l; have h2 := Fm.tells_len ks (Fm.tell l k); simp only [Fm.tells, zgw, List.map_cons, zX]; omega
end
mutual
theorem Fm.sz_many : ∀ (f : Fm) (d : Nat), d ≤ 5 → (Fm.shape d f = true → Fm.sz (6 - d) f = Fm.many d f) ∧ (Fm.shape d f = false → 11 ≤ Fm.sz (6 - d) f)
 | .mk kind lit kids, d, hd => by
  simp only [Fm.shape, Fm.sz, Fm.many]
  by_cases h0 : d < 1
  ·rw [if_pos (.inl h0), if_pos (by omega)]
   exact ⟨fun h => absurd h (by simp), fun _ => zgo _⟩
  by_cases h1 : Fm.nk kind = (kids.length : Int)
  ·rw [if_neg (by simp [h0, h1])]
   by_cases h2 : kind = 1
   ·have h3 : Fm.nk kind = 0 := Fm.nk_zero.2 h2
    have h4 : kids = [] := List.eq_nil_of_length_eq_zero (by omega); subst h4; rw [if_pos h2]
    cases h5 : lit.M.okB
    ·rw [if_pos (.inr (.inr (.inl ⟨h3, rfl⟩)))]
     exact ⟨fun h => absurd h (by simp), fun _ => zgo _⟩
    ·rw [if_neg (by simp [h3]; omega)]
     refine ⟨fun _ => by simp [Fm.szs, Fm.manys], fun h => absurd h (by simp)⟩
   ·have h3 : Fm.nk kind ≠ 0 := fun h => h2 (Fm.nk_zero.1 h)
    rw [if_neg h2]
    cases h5 : lit.bare
    ·rw [if_pos (.inr (.inr (.inr ⟨h3, rfl⟩)))]
     exact ⟨fun h => absurd h (by simp), fun _ => zgo _⟩
    ·rw [if_neg (by
      rintro (h | h | h | h)
      ·omega
      ·exact h h1
      ·exact h3 h.1
      ·exact absurd h.2 (by simp)), if_pos (by omega), Bool.and_true]
     have ih := Fm.szs_manys kids (d - 1) (by omega)
     have e : 6 - (d - 1) = 6 - d + 1 := by omega
     rw [e] at ih; exact ⟨fun h => by rw [ih.1 h], fun h => by have := ih.2 h; omega⟩
  ·rw [if_pos (.inr h1), if_pos (.inr (.inl h1))]
   exact ⟨fun h => absurd h (by simp), fun _ => zgo _⟩
theorem Fm.szs_manys : ∀ (ks : List Fm) (d : Nat), d ≤ 5 → (Fm.shapes d ks = true → Fm.szs (6 - d) ks = Fm.manys d ks) ∧ (Fm.shapes d ks = false → 11 ≤ Fm.szs (6 - d) ks)
 | [], d, hd => by simp [Fm.shapes, Fm.szs, Fm.manys]
 | k :: ks, d, hd => by
  have h1 := Fm.sz_many k d hd; have h2 := Fm.szs_manys ks d hd; simp only [Fm.shapes, Fm.szs, Fm.manys]
  cases hk : Fm.shape d k
  ·refine ⟨fun h => absurd h (by simp), fun _ => by have := h1.2 hk; omega⟩
  ·rw [Bool.true_and]
   exact ⟨fun h => by rw [h1.1 hk, h2.1 h], fun h => by have := h2.2 h; omega⟩
end
mutual
theorem Fm.add_tell : ∀ (f : Fm) (d : Nat) (l : List Atm), Fm.shape d f = true → Fm.add l f = Fm.tell l f
 | .mk kind lit kids, d, l => by
  simp only [Fm.shape, Fm.add, Fm.tell]; intro h
  split at h
  ·simp at h
  ·rename_i hn
   by_cases h2 : kind = 1
   ·have h3 : Fm.nk kind = 0 := Fm.nk_zero.2 h2
    have h4 : kids = [] := List.eq_nil_of_length_eq_zero (by omega); subst h4; rw [if_pos h2]
    cases h5 : hasA l lit.M <;> simp [h2, Fm.adds]
   ·rw [if_neg h2] at h
    rw [if_neg h2, if_neg (by simp [h2])]; simp only [zgm] at h; exact Fm.adds_tells kids (d - 1) l h.1
theorem Fm.adds_tells : ∀ (ks : List Fm) (d : Nat) (l : List Atm), Fm.shapes d ks = true → Fm.adds l ks = Fm.tells l ks
 | [], d, l => by simp [Fm.adds, Fm.tells]
 | k :: ks, d, l => by
  simp only [Fm.shapes, zgm, Fm.adds, Fm.tells]; intro h; rw [Fm.add_tell k d l h.1, Fm.adds_tells ks d _ h.2]
end
def Fm.okF (f : Fm) : Bool := decide (Fm.sz 1 f ≤ 10) && decide ((Fm.add [] f).length ≤ 6)
def Fm.rightF (f : Fm) : Bool := (Fm.shape 5 f && decide (Fm.many 5 f ≤ 10)) && decide ((Fm.tell [] f).length ≤ 6)
theorem Fm.okF_right (f : Fm) : f.okF = f.rightF := by
 have h := Fm.sz_many f 5 (zgo _); unfold Fm.okF Fm.rightF
 cases hs : Fm.shape 5 f
 ·have h1 := h.2 hs
  rw [show (6 - 5 : Nat) = 1 from rfl] at h1
  have h2 : ¬ Fm.sz 1 f ≤ 10 := by omega
  simp [h2]
 ·have h1 := h.1 hs
  rw [Fm.add_tell f 5 [] hs, Bool.true_and]; rw [show (6 - 5 : Nat) = 1 from rfl] at h1; rw [h1]
/-- The place of the first of which p is so, or -1. -/
def FirstOf {α : Type} (p : α → Bool) (l : List α) (n : Int) : Prop := (n = -1 ∧ l.all (fun t => !p t) = true) ∨ ∃ (k : Nat) (h : k < l.length), n = k ∧ p l[k] = true ∧ (l.take k).all (fun t => !p t) = true
theorem FirstOf.succ {α : Type} {p : α → Bool} {l : List α} {k : Nat} (hk : k < l.length) (h : (l.take k).all (fun t => !p t) = true) (h' : p l[k] = false) : (l.take (k + 1)).all (fun t => !p t) = true := by
 rw [zgf hk, List.all_append, h]; simp [h']
theorem FirstOf.bd {α : Type} {p : α → Bool} {l : List α} {n : Int} (h : FirstOf p l n) : -1 ≤ n ∧ n < l.length := by
 rcases h with ⟨rfl, _⟩ | ⟨k, hk, rfl, _⟩ <;> constructor <;> omega
theorem FirstOf.neg {x : Atm} {l : List Atm} {n : Int} (h : FirstOf (fun y => eqV y.cd x.cd) l n) : n < 0 ↔ hasA l x = false := by
 rcases h with ⟨rfl, h⟩ | ⟨k, hk, rfl, h, _⟩
 ·refine ⟨fun _ => ?_, fun _ => by omega⟩
  unfold hasA; rw [List.any_eq_false]
  intro y hy; rw [List.all_eq_true] at h; simpa using h y hy
 ·refine ⟨fun h => by omega, fun h' => ?_⟩
  unfold hasA at h'; rw [List.any_eq_false] at h'; exact absurd h (h' l[k] (zgh hk))
theorem Sy.eqv (x y : Sy) : eqV x.cd y.cd = (decide (x.name = y.name) && (eqR (x.args.map zv) (y.args.map zv) && (x.sort == y.sort))) := by
 unfold Sy.cd; rw [zaP (by simp)]; rw [zaP (by simp)]; simp only [zb2, zct, zbH, zdi, ← Bool.beq_eq_decide_eq, ← zcu]
theorem Sy.eqv_name {x y : Sy} (h : decide (x.name = y.name) = false) : eqV x.cd y.cd = false := by rw [Sy.eqv]; simp [h]
theorem Sy.eqv_args {x y : Sy} (h : eqR (x.args.map zv) (y.args.map zv) = false) : eqV x.cd y.cd = false := by rw [Sy.eqv]; simp [h]
theorem Sy.eqv_sort {x y : Sy} (h : (x.sort == y.sort) = false) : eqV x.cd y.cd = false := by rw [Sy.eqv]; simp [h]
theorem Sg.eqv (x y : Sg) : eqV x.cd y.cd = eqR (x.Y.map Sy.cd) (y.Y.map Sy.cd) := by
 unfold Sg.cd; simp only [zb2, zct, zbH, zdi, ← Bool.beq_eq_decide_eq, ← zcu]
theorem Sg.eqv_syms {x y : Sg} (h : eqR (x.Y.map Sy.cd) (y.Y.map Sy.cd) = false) : eqV x.cd y.cd = false := by rw [Sg.eqv]; simp [h]
theorem Atm.eqv (x y : Atm) : eqV x.cd y.cd = ((x.kind == y.kind) && (eqV x.a.cd y.a.cd && (eqV x.b.cd y.b.cd && (eqR (x.N.map Tm.cd) (y.N.map Tm.cd) && (eqR (x.T.map zv) (y.T.map zv) && ((x.O == y.O) && (x.C == y.C))))))) := by
 unfold Atm.cd; rw [zaP (by simp)]; rw [zaP (by simp [Tm.cd_len])]; rw [zaP (by simp [Tm.cd_len])]; rw [zaP (by simp)]; rw [zaP (by simp)]; rw [zaP (by simp)]; simp only [zb2, zct, zbH, zdi, ← Bool.beq_eq_decide_eq, ← zcu]
theorem Atm.eqv_kind {x y : Atm} (h : (x.kind == y.kind) = false) : eqV x.cd y.cd = false := by rw [Atm.eqv]; simp [h]
theorem Atm.eqv_a {x y : Atm} (h : eqV x.a.cd y.a.cd = false) : eqV x.cd y.cd = false := by rw [Atm.eqv]; simp [h]
theorem Atm.eqv_b {x y : Atm} (h : eqV x.b.cd y.b.cd = false) : eqV x.cd y.cd = false := by rw [Atm.eqv]; simp [h]
theorem Atm.eqv_nums {x y : Atm} (h : eqR (x.N.map Tm.cd) (y.N.map Tm.cd) = false) : eqV x.cd y.cd = false := by rw [Atm.eqv]; simp [h]
theorem Atm.eqv_times {x y : Atm} (h : eqR (x.T.map zv) (y.T.map zv) = false) : eqV x.cd y.cd = false := by rw [Atm.eqv]; simp [h]
theorem Atm.eqv_bound {x y : Atm} (h : (x.O == y.O) = false) : eqV x.cd y.cd = false := by rw [Atm.eqv]; simp [h]
theorem Atm.eqv_strict {x y : Atm} (h : (x.C == y.C) = false) : eqV x.cd y.cd = false := by rw [Atm.eqv]; simp [h]
theorem Fm.eqv (x y : Fm) : eqV x.cd y.cd = ((x.kind == y.kind) && (eqV x.L.M.cd y.L.M.cd && ((x.L.no == y.L.no) && eqR (x.K.map Fm.cd) (y.K.map Fm.cd)))) := by
 rw [Fm.cd_eq x, Fm.cd_eq y]; simp only [Lt.cd, List.append_assoc]; rw [zaP (by simp)]; rw [zaP (by simp [Atm.cd_len])]; rw [zaP (by simp)]; simp only [zb2, zct, zbH, zdi, ← Bool.beq_eq_decide_eq, ← zcu]
theorem Fm.eqv_kind {x y : Fm} (h : (x.kind == y.kind) = false) : eqV x.cd y.cd = false := by rw [Fm.eqv]; simp [h]
theorem Fm.eqv_lit_atom {x y : Fm} (h : eqV x.L.M.cd y.L.M.cd = false) : eqV x.cd y.cd = false := by rw [Fm.eqv]; simp [h]
theorem Fm.eqv_lit_no {x y : Fm} (h : (x.L.no == y.L.no) = false) : eqV x.cd y.cd = false := by rw [Fm.eqv]; simp [h]
theorem Fm.eqv_kids {x y : Fm} (h : eqR (x.K.map Fm.cd) (y.K.map Fm.cd) = false) : eqV x.cd y.cd = false := by rw [Fm.eqv]; simp [h]
theorem Stk.eqv (x y : Stk) : eqV x.cd y.cd = (eqV x.sig.cd y.sig.cd && eqR (x.E.map zG) (y.E.map zG)) := by
 unfold Stk.cd; rw [zaP (by simp [Sg.cd_len])]; simp only [zb2, zct, zbH, zdi, ← Bool.beq_eq_decide_eq, ← zcu]
theorem Stk.eqv_sig {x y : Stk} (h : eqV x.sig.cd y.sig.cd = false) : eqV x.cd y.cd = false := by rw [Stk.eqv]; simp [h]
theorem Stk.eqv_levels {x y : Stk} (h : eqR (x.E.map zG) (y.E.map zG) = false) : eqV x.cd y.cd = false := by rw [Stk.eqv]; simp [h]
theorem zcy (xs ys : List Int) (v u : Value) (f f' : List Nat) (w : World) (hv : Rd w (.sl (xs.map zv)) v f) (hx : Rd w (.sl (ys.map zv)) u f') :
  Calls Tryz.prog 48 #[v, u] w fun e w' => e = .returned (.bool (eqR (xs.map zv) (ys.map zv))) ∧ Below w.heap.size w w' := by
 obtain ⟨a, c, rfl, hc1, hc2⟩ := zg hv; obtain ⟨a', c', rfl, hc1', hc2'⟩ := zg hx
 by_cases hl : xs.length = ys.length
 ·have hlb : ((xs.length : Int) != (ys.length : Int)) = false := by rw [hl]; simp
  have hl1 : xs.length ≤ ys.length := by omega
  have hl2 : ys.length ≤ xs.length := by omega
  clear hl; go_enter Tryz.func48, Tryz.ntmps48; go_wp2_with fail
  go_loopw [13] (fun i wr => ∃ k : Nat, k ≤ xs.length ∧ i = .int .i64 k ∧ Hid (Alike zv xs ys k) ∧ Below w.heap.size w wr) (fun i _ => xs.length - (intOf i).toNat)
  case atStart => exact ⟨0, zgx _, rfl, zgn Alike.zero, zgz _ _⟩
  case round =>
   obtain ⟨k, hkl, rfl, hall, hb⟩ := hrel; have hz := hb.size
   by_cases hlt : k < xs.length
   ·obtain ⟨b, off, rfl, hbs, _⟩ := zl hv (by omega)
    obtain ⟨b', off', rfl, hbs', _⟩ := zl hx (by omega)
    have hlt' : k < ys.length := by omega
    obtain ⟨d0, _⟩ := zan (hv.below hb) hlt; obtain ⟨d0', _⟩ := zan (hx.below hb) hlt'
    by_cases he : xs[k] = ys[k]
    ·have HE : Hid (eqV (zv xs[k]) (zv ys[k]) = true) := by rw [he]; exact ze0 _
     have hne : (xs[k] != ys[k]) = false := by rw [he]; simp
     clear he; go_wp2_with fail; have q0 := cell_regrown d0; have q0' := cell_regrown d0'; refine wp_region_quiet_below (by kernel_rfl) (by kernel_rfl) ?_
     repeat (quiet_step (fail))
     refine wpQuiet_nil ?_; intro w2 hw2; obtain ⟨⟨dq, osq⟩, hw2⟩ := hw2; have hb2 : Below wr.heap.size wr w2 := hw2 ▸ below_regrown wr dq osq; clear hw2 q0 q0'; go_wp2_with fail; go_roundw
     case rel => exact ⟨k + 1, by omega, by go_num, hall.out.succ hlt hlt' HE.out, hb.trans (hb2.mono (by omega))⟩
     case measure => simp [intOf]; omega
    ·have HE : Hid (eqV (zv xs[k]) (zv ys[k]) = false) := zgn (eqV_no (by simpa [zv] using he))
     have hne : (xs[k] != ys[k]) = true := by rw [bne_iff_ne]; exact he
     go_wp2_with fail; have q0 := cell_regrown d0; have q0' := cell_regrown d0'; refine wp_region_quiet_below (by kernel_rfl) (by kernel_rfl) ?_
     repeat (quiet_step (fail))
     refine wpQuiet_nil ?_; intro w2 hw2; obtain ⟨⟨dq, osq⟩, hw2⟩ := hw2; have hb2 : Below wr.heap.size wr w2 := hw2 ▸ below_regrown wr dq osq; clear hw2 q0 q0'; go_wp2_with fail; go_ret; exact ⟨retB (za1 hlt hlt' HE.out).symm, hb.trans (hb2.mono (by omega))⟩
   ·go_wp2_with fail
    go_ret; exact ⟨retB (hall.out.all (by omega) (by omega)).symm, hb⟩
 ·have hlb : ((xs.length : Int) != (ys.length : Int)) = true := by rw [bne_iff_ne]; omega
  have HF := zgn (zb1 (cd := zv) hl); clear hl; go_enter Tryz.func48, Tryz.ntmps48; go_wp2_with fail; go_ret; exact ⟨retB HF.out.symm, zgz _ _⟩
theorem equalSy_f (xs ys : List Sy) (hq : ∀ x ∈ xs, ∀ (y : Sy) (vs us : List Value) (f f' : List Nat) (w : World), RdVs w x.cd vs f → RdVs w y.cd us f' → Calls Tryz.prog 105 #[.agg vs.toArray, .agg us.toArray] w fun e w' => e = .returned (.bool (eqV x.cd y.cd)) ∧ Below w.heap.size w w')
  (v u : Value) (f f' : List Nat) (w : World) (hv : Rd w (.sl (xs.map Sy.cd)) v f) (hx : Rd w (.sl (ys.map Sy.cd)) u f') :
  Calls Tryz.prog 104 #[v, u, .func (.func 105) #[] #[]] w fun e w' => e = .returned (.bool (eqR (xs.map Sy.cd) (ys.map Sy.cd))) ∧ Below w.heap.size w w' := by
 obtain ⟨a, c, rfl, hc1, hc2⟩ := zg hv; obtain ⟨a', c', rfl, hc1', hc2'⟩ := zg hx; have HQ := zgn hq; clear hq
 by_cases hl : xs.length = ys.length
 ·have hlb : ((xs.length : Int) != (ys.length : Int)) = false := by rw [hl]; simp
  have hl1 : xs.length ≤ ys.length := by omega
  have hl2 : ys.length ≤ xs.length := by omega
  clear hl; go_enter Tryz.func104, Tryz.ntmps104; go_wp2_with fail
  go_loopw [17] (fun i wr => ∃ k : Nat, k ≤ xs.length ∧ i = .int .i64 k ∧ Hid (Alike Sy.cd xs ys k) ∧ Below w.heap.size w wr) (fun i _ => xs.length - (intOf i).toNat)
  case atStart => exact ⟨0, zgx _, rfl, zgn Alike.zero, zgz _ _⟩
  case round =>
   obtain ⟨k, hkl, rfl, hall, hb⟩ := hrel; have hz := hb.size
   by_cases hlt : k < xs.length
   ·obtain ⟨b, off, rfl, hbs, _⟩ := zl hv (by omega)
    obtain ⟨b', off', rfl, hbs', _⟩ := zl hx (by omega)
    have hlt' : k < ys.length := by omega
    obtain ⟨a1, c1, f1, d0, d1, d2, m0, m1, m2, _⟩ := Sy.at (hv.below hb) hlt; obtain ⟨a1', c1', f1', d0', d1', d2', m0', m1', m2', _⟩ := Sy.at (hx.below hb) hlt'
    have hbz : b' < wr.heap.size := by omega
    go_wp2_with fail; refine (HQ.out xs[k] (zgh hlt) ys[k] _ _ _ _ _ (by exact (Sy.close m0 m1 m2).below (((zgz _ _).alloc (zgo _) _).alloc (by simp) _)) (by exact (Sy.close m0' m1' m2').below (((zgz _ _).alloc (zgo _) _).alloc (by simp) _))).mono ?_; rintro e w2 ⟨rfl, hb2⟩
    have hb3 : Below wr.heap.size wr w2 := ((((zgz _ _).alloc (zgo _) _).alloc (by simp) _)).trans (hb2.mono (by simp; try omega))
    clear hb2
    cases he : eqV (xs[k].cd) (ys[k].cd)
    ·have HE := zgn he
     clear he; go_wp2_with fail; go_ret; exact ⟨retB (za1 hlt hlt' HE.out).symm, hb.trans (hb3.mono (by omega))⟩
    ·have HE := zgn he
     clear he; go_wp2_with fail; go_roundw
     case rel => exact ⟨k + 1, by omega, by go_num, hall.out.succ hlt hlt' HE.out, hb.trans (hb3.mono (by omega))⟩
     case measure => simp [intOf]; omega
   ·go_wp2_with fail
    go_ret; exact ⟨retB (hall.out.all (by omega) (by omega)).symm, hb⟩
 ·have hlb : ((xs.length : Int) != (ys.length : Int)) = true := by rw [bne_iff_ne]; omega
  have HF := zgn (zb1 (cd := Sy.cd) hl); clear hl; go_enter Tryz.func104, Tryz.ntmps104; go_wp2_with fail; go_ret; exact ⟨retB HF.out.symm, zgz _ _⟩
theorem zd3 (xs ys : List Fm) (hq : ∀ x ∈ xs, ∀ (y : Fm) (vs us : List Value) (f f' : List Nat) (w : World), RdVs w x.cd vs f → RdVs w y.cd us f' → Calls Tryz.prog 25 #[.agg vs.toArray, .agg us.toArray] w fun e w' => e = .returned (.bool (eqV x.cd y.cd)) ∧ Below w.heap.size w w')
  (v u : Value) (f f' : List Nat) (w : World) (hv : Rd w (.sl (xs.map Fm.cd)) v f) (hx : Rd w (.sl (ys.map Fm.cd)) u f') :
  Calls Tryz.prog 63 #[v, u, .func (.func 25) #[] #[]] w fun e w' => e = .returned (.bool (eqR (xs.map Fm.cd) (ys.map Fm.cd))) ∧ Below w.heap.size w w' := by
 obtain ⟨a, c, rfl, hc1, hc2⟩ := zg hv; obtain ⟨a', c', rfl, hc1', hc2'⟩ := zg hx; have HQ := zgn hq; clear hq
 by_cases hl : xs.length = ys.length
 ·have hlb : ((xs.length : Int) != (ys.length : Int)) = false := by rw [hl]; simp
  have hl1 : xs.length ≤ ys.length := by omega
  have hl2 : ys.length ≤ xs.length := by omega
  clear hl; go_enter Tryz.func63, Tryz.ntmps63; go_wp2_with fail
  go_loopw [17] (fun i wr => ∃ k : Nat, k ≤ xs.length ∧ i = .int .i64 k ∧ Hid (Alike Fm.cd xs ys k) ∧ Below w.heap.size w wr) (fun i _ => xs.length - (intOf i).toNat)
  case atStart => exact ⟨0, zgx _, rfl, zgn Alike.zero, zgz _ _⟩
  case round =>
   obtain ⟨k, hkl, rfl, hall, hb⟩ := hrel; have hz := hb.size
   by_cases hlt : k < xs.length
   ·obtain ⟨b, off, rfl, hbs, _⟩ := zl hv (by omega)
    obtain ⟨b', off', rfl, hbs', _⟩ := zl hx (by omega)
    have hlt' : k < ys.length := by omega
    obtain ⟨a3, c3, f3, a5, c5, f5, a6, c6, f6, a7, c7, f7, a11, c11, f11, d0, d1, d2, d3, d4, d5, d6, d7, d8, d9, d10, d11, m0, m1, m2, m3, m4, m5, m6, m7, m8, m9, _⟩ := Fm.at (hv.below hb) hlt; obtain ⟨a3', c3', f3', a5', c5', f5', a6', c6', f6', a7', c7', f7', a11', c11', f11', d0', d1', d2', d3', d4', d5', d6', d7', d8', d9', d10', d11', m0', m1', m2', m3', m4', m5', m6', m7', m8', m9', _⟩ := Fm.at (hx.below hb) hlt'
    have hbz : b' < wr.heap.size := by omega
    go_wp2_with fail; refine (HQ.out xs[k] (zgh hlt) ys[k] _ _ _ _ _ (by exact (Fm.close m0 m1 m2 m3 m4 m5 m6 m7 m8 m9).below (((zgz _ _).alloc (zgo _) _).alloc (by simp) _)) (by exact (Fm.close m0' m1' m2' m3' m4' m5' m6' m7' m8' m9').below (((zgz _ _).alloc (zgo _) _).alloc (by simp) _))).mono ?_; rintro e w2 ⟨rfl, hb2⟩
    have hb3 : Below wr.heap.size wr w2 := ((((zgz _ _).alloc (zgo _) _).alloc (by simp) _)).trans (hb2.mono (by simp; try omega))
    clear hb2
    cases he : eqV (xs[k].cd) (ys[k].cd)
    ·have HE := zgn he
     clear he; go_wp2_with fail; go_ret; exact ⟨retB (za1 hlt hlt' HE.out).symm, hb.trans (hb3.mono (by omega))⟩
    ·have HE := zgn he
     clear he; go_wp2_with fail; go_roundw
     case rel => exact ⟨k + 1, by omega, by go_num, hall.out.succ hlt hlt' HE.out, hb.trans (hb3.mono (by omega))⟩
     case measure => simp [intOf]; omega
   ·go_wp2_with fail
    go_ret; exact ⟨retB (hall.out.all (by omega) (by omega)).symm, hb⟩
 ·have hlb : ((xs.length : Int) != (ys.length : Int)) = true := by rw [bne_iff_ne]; omega
  have HF := zgn (zb1 (cd := Fm.cd) hl); clear hl; go_enter Tryz.func63, Tryz.ntmps63; go_wp2_with fail; go_ret; exact ⟨retB HF.out.symm, zgz _ _⟩
theorem zfo (xs ys : List (List Fm)) (hq : ∀ x ∈ xs, ∀ (y : (List Fm)) (v u : Value) (f f' : List Nat) (w : World), Rd w (.sl (x.map Fm.cd)) v f → Rd w (.sl (y.map Fm.cd)) u f' → Calls Tryz.prog 68 #[v, u] w fun e w' => e = .returned (.bool (eqV (zG x) (zG y))) ∧ Below w.heap.size w w')
  (v u : Value) (f f' : List Nat) (w : World) (hv : Rd w (.sl (xs.map zG)) v f) (hx : Rd w (.sl (ys.map zG)) u f') :
  Calls Tryz.prog 67 #[v, u, .func (.func 68) #[] #[]] w fun e w' => e = .returned (.bool (eqR (xs.map zG) (ys.map zG))) ∧ Below w.heap.size w w' := by
 obtain ⟨a, c, rfl, hc1, hc2⟩ := zg hv; obtain ⟨a', c', rfl, hc1', hc2'⟩ := zg hx; have HQ := zgn hq; clear hq
 by_cases hl : xs.length = ys.length
 ·have hlb : ((xs.length : Int) != (ys.length : Int)) = false := by rw [hl]; simp
  have hl1 : xs.length ≤ ys.length := by omega
  have hl2 : ys.length ≤ xs.length := by omega
  clear hl; go_enter Tryz.func67, Tryz.ntmps67; go_wp2_with fail
  go_loopw [17] (fun i wr => ∃ k : Nat, k ≤ xs.length ∧ i = .int .i64 k ∧ Hid (Alike zG xs ys k) ∧ Below w.heap.size w wr) (fun i _ => xs.length - (intOf i).toNat)
  case atStart => exact ⟨0, zgx _, rfl, zgn Alike.zero, zgz _ _⟩
  case round =>
   obtain ⟨k, hkl, rfl, hall, hb⟩ := hrel; have hz := hb.size
   by_cases hlt : k < xs.length
   ·obtain ⟨b, off, rfl, hbs, _⟩ := zl hv (by omega)
    obtain ⟨b', off', rfl, hbs', _⟩ := zl hx (by omega)
    have hlt' : k < ys.length := by omega
    obtain ⟨a0, c0, f0, d0, hk0, _⟩ := za4 (hv.below hb) hlt; obtain ⟨a0', c0', f0', d0', hk0', _⟩ := za4 (hx.below hb) hlt'
    have hbz : b' < wr.heap.size := by omega
    go_wp2_with fail; refine (HQ.out xs[k] (zgh hlt) ys[k] _ _ _ _ _ (by exact hk0.below (zgz _ _)) (by exact hk0'.below (zgz _ _))).mono ?_; rintro e w2 ⟨rfl, hb2⟩
    have hb3 : Below wr.heap.size wr w2 := ((zgz _ _)).trans (hb2.mono (by simp; try omega))
    clear hb2
    cases he : eqV (zG xs[k]) (zG ys[k])
    ·have HE := zgn he
     clear he; go_wp2_with fail; go_ret; exact ⟨retB (za1 hlt hlt' HE.out).symm, hb.trans (hb3.mono (by omega))⟩
    ·have HE := zgn he
     clear he; go_wp2_with fail; go_roundw
     case rel => exact ⟨k + 1, by omega, by go_num, hall.out.succ hlt hlt' HE.out, hb.trans (hb3.mono (by omega))⟩
     case measure => simp [intOf]; omega
   ·go_wp2_with fail
    go_ret; exact ⟨retB (hall.out.all (by omega) (by omega)).symm, hb⟩
 ·have hlb : ((xs.length : Int) != (ys.length : Int)) = true := by rw [bne_iff_ne]; omega
  have HF := zgn (zb1 (cd := zG) hl); clear hl; go_enter Tryz.func67, Tryz.ntmps67; go_wp2_with fail; go_ret; exact ⟨retB HF.out.symm, zgz _ _⟩
theorem ze4 (x y : Tm) (vs us : List Value) (f f' : List Nat) (w : World) (hv : RdVs w x.cd vs f) (hx : RdVs w y.cd us f') :
  Calls Tryz.prog 46 #[.agg vs.toArray, .agg us.toArray] w fun e w' => e = .returned (.bool (eqV x.cd y.cd)) ∧ Below w.heap.size w w' := by
 obtain ⟨a1, c1, f1, rfl, _, m0, m1⟩ := Tm.open hv; obtain ⟨a1', c1', f1', rfl, _, m0', m1'⟩ := Tm.open hx; rw [← Tm.beq_cd]; exact zbf _ x y _ _ w (zgo _) (TmR.mk m0 ⟨_, m1⟩) (TmR.mk m0' ⟨_, m1'⟩)
theorem zbL (x y : Tm) (vs us : List Value) (f f' : List Nat) (w : World) (hv : RdVs w x.cd vs f) (hx : RdVs w y.cd us f') :
  Calls Tryz.prog 152 #[.agg vs.toArray, .agg us.toArray] w fun e w' => e = .returned (.bool (eqV x.cd y.cd)) ∧ Below w.heap.size w w' := by
 obtain ⟨a1, c1, f1, rfl, _, m0, m1⟩ := Tm.open hv; obtain ⟨a1', c1', f1', rfl, _, m0', m1'⟩ := Tm.open hx; rw [← Tm.beq_cd]; exact zbr _ x y _ _ w (zgo _) (TmR.mk m0 ⟨_, m1⟩) (TmR.mk m0' ⟨_, m1'⟩)
theorem zfp (xs ys : List Tm) (v u : Value) (f f' : List Nat) (w : World) (hv : Rd w (.sl (xs.map Tm.cd)) v f) (hx : Rd w (.sl (ys.map Tm.cd)) u f') :
  Calls Tryz.prog 47 #[v, u, .func (.func 46) #[] #[]] w fun e w' => e = .returned (.bool (eqR (xs.map Tm.cd) (ys.map Tm.cd))) ∧ Below w.heap.size w w' := by
 rw [← Tm.beqs_cd]; exact zbs (Tm.sizes xs) (zbf _) xs ys v u w (fun t ht => Tm.size_mem ht) ⟨f, hv⟩ ⟨f', hx⟩
theorem sameSy_x (x y : Sy) (vs us : List Value) (f f' : List Nat) (w : World) (hv : RdVs w x.cd vs f) (hx : RdVs w y.cd us f') :
  Calls Tryz.prog 105 #[.agg vs.toArray, .agg us.toArray] w fun e w' => e = .returned (.bool (eqV x.cd y.cd)) ∧ Below w.heap.size w w' := by
 obtain ⟨a1, c1, f1, rfl, _, m0, m1, m2⟩ := Sy.open hv; obtain ⟨a1', c1', f1', rfl, _, m0', m1', m2'⟩ := Sy.open hx; go_enter Tryz.func105, Tryz.ntmps105
 by_cases tk1 : x.name.toList = y.name.toList
 rotate_left
 ·have HF := zgn (Sy.eqv_name (x := x) (y := y) (decide_eq_false (fun h => tk1 (zaD.2 h))))
  go_wp2_with fail; go_ret; exact ⟨retB HF.out.symm, (((zgz _ _).alloc (zgo _) _).alloc (by simp) _)⟩
 have HT_name := zgn (decide_eq_true (zaD.1 tk1)); go_wp2_with fail; refine (zcy x.args y.args _ _ _ _ _ (by exact m1.below (((zgz _ _).alloc (zgo _) _).alloc (by simp) _)) (by exact m1'.below (((zgz _ _).alloc (zgo _) _).alloc (by simp) _))).mono ?_; rintro e w1 ⟨rfl, hb1⟩; obtain ⟨hx1, hy1, hz1, hB1⟩ := box2 (w := w) (wr := w1) (cs := #[.string x.name, .slice a1 x.args.length c1, .int .i64 x.sort]) (ds := #[.string y.name, .slice a1' y.args.length c1', .int .i64 y.sort]) (T := 109) (U := 109) (zm hb1 (by simp))
 cases hq1 : eqR (x.args.map zv) (y.args.map zv)
 ·have HF := zgn (Sy.eqv_args hq1)
  clear hq1; go_wp2_with fail; go_ret; exact ⟨retB HF.out.symm, hB1⟩
 have HT_args := zgn hq1; clear hq1
 cases tk2 : (x.sort == y.sort)
 ·have HF := zgn (Sy.eqv_sort tk2)
  go_wp2_with fail; go_ret; exact ⟨retB HF.out.symm, hB1⟩
 have HT_sort := zgn tk2; go_wp2_with fail; go_ret
 exact ⟨retB (by rw [Sy.eqv, HT_name.out, HT_args.out, HT_sort.out]; try rfl), hB1⟩
theorem zfq (xs ys : List Sy) (v u : Value) (f f' : List Nat) (w : World) (hv : Rd w (.sl (xs.map Sy.cd)) v f) (hx : Rd w (.sl (ys.map Sy.cd)) u f') : Calls Tryz.prog 104 #[v, u, .func (.func 105) #[] #[]] w fun e w' => e = .returned (.bool (eqR (xs.map Sy.cd) (ys.map Sy.cd))) ∧ Below w.heap.size w w' := equalSy_f xs ys (fun x _ y vs us f f' w => sameSy_x x y vs us f f' w) v u f f' w hv hx
theorem sameSg_x (x y : Sg) (vs us : List Value) (f f' : List Nat) (w : World) (hv : RdVs w x.cd vs f) (hx : RdVs w y.cd us f') :
  Calls Tryz.prog 66 #[.agg vs.toArray, .agg us.toArray] w fun e w' => e = .returned (.bool (eqV x.cd y.cd)) ∧ Below w.heap.size w w' := by
 obtain ⟨a0, c0, f0, rfl, _, m0⟩ := Sg.open hv; obtain ⟨a0', c0', f0', rfl, _, m0'⟩ := Sg.open hx; go_enter Tryz.func66, Tryz.ntmps66; go_wp2_with fail; refine (zfq x.Y y.Y _ _ _ _ _ (by exact m0.below (((zgz _ _).alloc (zgo _) _).alloc (by simp) _)) (by exact m0'.below (((zgz _ _).alloc (zgo _) _).alloc (by simp) _))).mono ?_; rintro e w1 ⟨rfl, hb1⟩; obtain ⟨hx1, hy1, hz1, hB1⟩ := box2 (w := w) (wr := w1) (cs := #[.slice a0 x.Y.length c0]) (ds := #[.slice a0' y.Y.length c0']) (T := 25) (U := 25) (zm hb1 (by simp))
 cases hq1 : eqR (x.Y.map Sy.cd) (y.Y.map Sy.cd)
 ·have HF := zgn (Sg.eqv_syms hq1)
  clear hq1; go_wp2_with fail; go_ret; exact ⟨retB HF.out.symm, hB1⟩
 have HT_syms := zgn hq1; clear hq1; go_wp2_with fail; go_ret
 exact ⟨retB (by rw [Sg.eqv, HT_syms.out]; try rfl), hB1⟩
theorem zcz (x y : Atm) (vs us : List Value) (f f' : List Nat) (w : World) (hv : RdVs w x.cd vs f) (hx : RdVs w y.cd us f') :
  Calls Tryz.prog 14 #[.agg vs.toArray, .agg us.toArray] w fun e w' => e = .returned (.bool (eqV x.cd y.cd)) ∧ Below w.heap.size w w' := by
 obtain ⟨a2, c2, f2, a4, c4, f4, a5, c5, f5, a6, c6, f6, rfl, _, m0, m1, m2, m3, m4, m5, m6, m7⟩ := Atm.open hv; obtain ⟨a2', c2', f2', a4', c4', f4', a5', c5', f5', a6', c6', f6', rfl, _, m0', m1', m2', m3', m4', m5', m6', m7'⟩ := Atm.open hx; go_enter Tryz.func14, Tryz.ntmps14
 cases tk1 : (x.kind == y.kind)
 ·have HF := zgn (Atm.eqv_kind tk1)
  go_wp2_with fail; go_ret; exact ⟨retB HF.out.symm, (((zgz _ _).alloc (zgo _) _).alloc (by simp) _)⟩
 have HT_kind := zgn tk1; go_wp2_with fail; refine (ze4 x.a y.a _ _ _ _ _ (by exact (Tm.close m1 m2).below (((zgz _ _).alloc (zgo _) _).alloc (by simp) _)) (by exact (Tm.close m1' m2').below (((zgz _ _).alloc (zgo _) _).alloc (by simp) _))).mono ?_; rintro e w1 ⟨rfl, hb1⟩; obtain ⟨hx1, hy1, hz1, hB1⟩ := box2 (w := w) (wr := w1) (cs := (yNa x a2 c2 a4 c4 a5 c5 a6 c6)) (ds := (yNa y a2' c2' a4' c4' a5' c5' a6' c6')) (T := 31) (U := 31) (zm hb1 (by simp))
 cases hq1 : eqV x.a.cd y.a.cd
 ·have HF := zgn (Atm.eqv_a hq1)
  clear hq1; go_wp2_with fail; go_ret; exact ⟨retB HF.out.symm, hB1⟩
 have HT_a := zgn hq1; clear hq1; go_wp2_with fail; refine (ze4 x.b y.b _ _ _ _ _ (by exact (Tm.close m3 m4).below hB1) (by exact (Tm.close m3' m4').below hB1)).mono ?_; rintro e w2 ⟨rfl, hb2⟩; have hB2 := hB1.trans (hb2.mono (by omega)); have hx2 := zh hx1 (by omega) hb2; have hy2 := zh hy1 (by omega) hb2; have hz2 := zgy hz1 hb2.size; clear hx1 hy1
 cases hq2 : eqV x.b.cd y.b.cd
 ·have HF := zgn (Atm.eqv_b hq2)
  clear hq2; go_wp2_with fail; go_ret; exact ⟨retB HF.out.symm, hB2⟩
 have HT_b := zgn hq2; clear hq2; go_wp2_with fail; refine (zfp x.N y.N _ _ _ _ _ (by exact m5.below hB2) (by exact m5'.below hB2)).mono ?_; rintro e w3 ⟨rfl, hb3⟩; have hB3 := hB2.trans (hb3.mono (by omega)); have hx3 := zh hx2 (by omega) hb3; have hy3 := zh hy2 (by omega) hb3; have hz3 := zgy hz2 hb3.size; clear hx2 hy2
 cases hq3 : eqR (x.N.map Tm.cd) (y.N.map Tm.cd)
 ·have HF := zgn (Atm.eqv_nums hq3)
  clear hq3; go_wp2_with fail; go_ret; exact ⟨retB HF.out.symm, hB3⟩
 have HT_nums := zgn hq3; clear hq3; go_wp2_with fail; refine (zcy x.T y.T _ _ _ _ _ (by exact m6.below hB3) (by exact m6'.below hB3)).mono ?_; rintro e w4 ⟨rfl, hb4⟩; have hB4 := hB3.trans (hb4.mono (by omega)); have hx4 := zh hx3 (by omega) hb4; have hy4 := zh hy3 (by omega) hb4; have hz4 := zgy hz3 hb4.size; clear hx3 hy3
 cases hq4 : eqR (x.T.map zv) (y.T.map zv)
 ·have HF := zgn (Atm.eqv_times hq4)
  clear hq4; go_wp2_with fail; go_ret; exact ⟨retB HF.out.symm, hB4⟩
 have HT_times := zgn hq4; clear hq4
 cases tk2 : (x.O == y.O)
 ·have HF := zgn (Atm.eqv_bound tk2)
  go_wp2_with fail; go_ret; exact ⟨retB HF.out.symm, hB4⟩
 have HT_bound := zgn tk2
 cases tk3 : (x.C == y.C)
 ·have HF := zgn (Atm.eqv_strict tk3)
  go_wp2_with fail; go_ret; exact ⟨retB HF.out.symm, hB4⟩
 have HT_strict := zgn tk3; go_wp2_with fail; go_ret
 exact ⟨retB (by rw [Atm.eqv, HT_kind.out, HT_a.out, HT_b.out, HT_nums.out, HT_times.out, HT_bound.out, HT_strict.out]; try rfl), hB4⟩
theorem zdk (x y : Atm) (vs us : List Value) (f f' : List Nat) (w : World) (hv : RdVs w x.cd vs f) (hx : RdVs w y.cd us f') :
  Calls Tryz.prog 139 #[.agg vs.toArray, .agg us.toArray] w fun e w' => e = .returned (.bool (eqV x.cd y.cd)) ∧ Below w.heap.size w w' := by
 obtain ⟨a2, c2, f2, a4, c4, f4, a5, c5, f5, a6, c6, f6, rfl, _, m0, m1, m2, m3, m4, m5, m6, m7⟩ := Atm.open hv; obtain ⟨a2', c2', f2', a4', c4', f4', a5', c5', f5', a6', c6', f6', rfl, _, m0', m1', m2', m3', m4', m5', m6', m7'⟩ := Atm.open hx; go_enter Tryz.func139, Tryz.ntmps139
 cases tk1 : (x.kind == y.kind)
 ·have HF := zgn (Atm.eqv_kind tk1)
  have tn : (x.kind != y.kind) = true := by rw [bne, tk1]; rfl
  go_wp2_with fail; go_ret; exact ⟨retB HF.out.symm, (((zgz _ _).alloc (zgo _) _).alloc (by simp) _)⟩
 have HT_kind := zgn tk1
 have tn1 : (x.kind != y.kind) = false := by rw [bne, tk1]; rfl
 go_wp2_with fail; refine (zbL x.a y.a _ _ _ _ _ (by exact (Tm.close m1 m2).below (((zgz _ _).alloc (zgo _) _).alloc (by simp) _)) (by exact (Tm.close m1' m2').below (((zgz _ _).alloc (zgo _) _).alloc (by simp) _))).mono ?_; rintro e w1 ⟨rfl, hb1⟩; obtain ⟨hx1, hy1, hz1, hB1⟩ := box2 (w := w) (wr := w1) (cs := (yNa x a2 c2 a4 c4 a5 c5 a6 c6)) (ds := (yNa y a2' c2' a4' c4' a5' c5' a6' c6')) (T := 31) (U := 31) (zm hb1 (by simp))
 cases hq1 : eqV x.a.cd y.a.cd
 ·have HF := zgn (Atm.eqv_a hq1)
  clear hq1; go_wp2_with fail; go_ret; exact ⟨retB HF.out.symm, hB1⟩
 have HT_a := zgn hq1; clear hq1; go_wp2_with fail; refine (zbL x.b y.b _ _ _ _ _ (by exact (Tm.close m3 m4).below hB1) (by exact (Tm.close m3' m4').below hB1)).mono ?_; rintro e w2 ⟨rfl, hb2⟩; have hB2 := hB1.trans (hb2.mono (by omega)); have hx2 := zh hx1 (by omega) hb2; have hy2 := zh hy1 (by omega) hb2; have hz2 := zgy hz1 hb2.size; clear hx1 hy1
 cases hq2 : eqV x.b.cd y.b.cd
 ·have HF := zgn (Atm.eqv_b hq2)
  clear hq2; go_wp2_with fail; go_ret; exact ⟨retB HF.out.symm, hB2⟩
 have HT_b := zgn hq2; clear hq2
 by_cases tk2 : x.N.length = y.N.length
 rotate_left
 ·have tf : ((x.N.length : Int) != (y.N.length : Int)) = true := by rw [bne_iff_ne]; omega
  have HF := zgn (Atm.eqv_nums (x := x) (y := y) (zb1 tk2)); clear tk2; go_wp2_with fail; go_ret; exact ⟨retB HF.out.symm, hB2⟩
 have tq2 : ((x.N.length : Int) != (y.N.length : Int)) = false := by rw [tk2]; simp
 have tl2 : x.N.length ≤ y.N.length := by omega
 have tm2 : y.N.length ≤ x.N.length := by omega
 clear tk2
 by_cases tk3 : x.T.length = y.T.length
 rotate_left
 ·have tf : ((x.T.length : Int) != (y.T.length : Int)) = true := by rw [bne_iff_ne]; omega
  have HF := zgn (Atm.eqv_times (x := x) (y := y) (zb1 tk3)); clear tk3; go_wp2_with fail; go_ret; exact ⟨retB HF.out.symm, hB2⟩
 have tq3 : ((x.T.length : Int) != (y.T.length : Int)) = false := by rw [tk3]; simp
 have tl3 : x.T.length ≤ y.T.length := by omega
 have tm3 : y.T.length ≤ x.T.length := by omega
 clear tk3
 cases tk4 : (x.O == y.O)
 ·have HF := zgn (Atm.eqv_bound tk4)
  have tn : (x.O != y.O) = true := by rw [bne, tk4]; rfl
  go_wp2_with fail; go_ret; exact ⟨retB HF.out.symm, hB2⟩
 have HT_bound := zgn tk4
 have tn4 : (x.O != y.O) = false := by rw [bne, tk4]; rfl
 cases tk5 : (x.C == y.C)
 ·have HF := zgn (Atm.eqv_strict tk5)
  have tn : (x.C != y.C) = true := by rw [bne, tk5]; rfl
  go_wp2_with fail; go_ret; exact ⟨retB HF.out.symm, hB2⟩
 have HT_strict := zgn tk5
 have tn5 : (x.C != y.C) = false := by rw [bne, tk5]; rfl
 go_wp2_with fail
 go_loopw [5] (fun i wq => ∃ k : Nat, k ≤ x.N.length ∧ i = .int .i64 k ∧ Hid (Alike Tm.cd x.N y.N k) ∧ Below w2.heap.size w2 wq) (fun i _ => x.N.length - (intOf i).toNat)
 case atStart => exact ⟨0, zgx _, rfl, zgn Alike.zero, zgz _ _⟩
 case round =>
  obtain ⟨k1, hkl1, rfl, hall1, hL1⟩ := hrel; have hBL1 := hB2.trans (hL1.mono (by omega)); have hxL1 := zh hx2 (by omega) hL1; have hyL1 := zh hy2 (by omega) hL1; have hzL1 := zgy hz2 hL1.size; clear hx2 hy2; have cx := hxL1 5; have cy := hyL1 5; simp only [zgd, zgb, zgc] at cx cy; have hlen1 := zao m5
  by_cases hlt : k1 < x.N.length
  ·obtain ⟨b, off, rfl, hbs, _⟩ := zl m5 (by omega)
   obtain ⟨b', off', rfl, hbs', _⟩ := zl m5' (by omega)
   have hlt' : k1 < y.N.length := by omega
   obtain ⟨ea1, ec1, ef1, d0, d1, em0, em1, _⟩ := Tm.at (m5.below hBL1) hlt; obtain ⟨ea1', ec1', ef1', d0', d1', em0', em1', _⟩ := Tm.at (m5'.below hBL1) hlt'
   cases he : eqV (Tm.cd x.N[k1]) (Tm.cd y.N[k1])
   ·have HE := zgn he
    go_wp2_with fail; have qd0 := cell_regrown d0; have qd1 := cell_regrown d1; have qd0' := cell_regrown d0'; have qd1' := cell_regrown d1'; have qcx := cell_regrown cx; have qcy := cell_regrown cy; refine wp_region_quiet_below (by kernel_rfl) (by kernel_rfl) ?_
    repeat (quiet_step (refine zgr (zbL x.N[k1] y.N[k1] _ _ _ _ _ ((Tm.close em0 em1).below (below_regrown _ _ _)) ((Tm.close em0' em1').below (below_regrown _ _ _)))))
    refine wpQuiet_nil ?_; intro wq0 hwq; obtain ⟨⟨dq, osq⟩, hwq⟩ := hwq; have hbq0 : Below wr.heap.size wr wq0 := hwq ▸ below_regrown wr dq osq; clear hwq qcx qcy qd0 qd1 qd0' qd1'
    try rw [he]
    go_wp2_with fail; go_ret; exact ⟨retB (Atm.eqv_nums (za1 hlt hlt' HE.out)).symm, hBL1.trans (hbq0.mono (by omega))⟩
   ·have HE := zgn he
    go_wp2_with fail; have qd0 := cell_regrown d0; have qd1 := cell_regrown d1; have qd0' := cell_regrown d0'; have qd1' := cell_regrown d1'; have qcx := cell_regrown cx; have qcy := cell_regrown cy; refine wp_region_quiet_below (by kernel_rfl) (by kernel_rfl) ?_
    repeat (quiet_step (refine zgr (zbL x.N[k1] y.N[k1] _ _ _ _ _ ((Tm.close em0 em1).below (below_regrown _ _ _)) ((Tm.close em0' em1').below (below_regrown _ _ _)))))
    refine wpQuiet_nil ?_; intro wq0 hwq; obtain ⟨⟨dq, osq⟩, hwq⟩ := hwq; have hbq0 : Below wr.heap.size wr wq0 := hwq ▸ below_regrown wr dq osq; clear hwq qcx qcy qd0 qd1 qd0' qd1'; go_wp2_with fail; go_roundw
    case rel => exact ⟨k1 + 1, by omega, by go_num, hall1.out.succ hlt hlt' HE.out, hL1.trans (hbq0.mono (by have := hL1.size; omega))⟩
    case measure => simp [intOf]; omega
  have HT_nums := zgn (hall1.out.all (by omega) (by omega)); clear cx cy; go_wp2_with fail
  go_loopw [6] (fun i wq => ∃ k : Nat, k ≤ x.T.length ∧ i = .int .i64 k ∧ Hid (Alike zv x.T y.T k) ∧ Below wr.heap.size wr wq) (fun i _ => x.T.length - (intOf i).toNat)
  case atStart => exact ⟨0, zgx _, rfl, zgn Alike.zero, zgz _ _⟩
  case round =>
   obtain ⟨k2, hkl2, rfl, hall2, hL2⟩ := hrel; have hBL2 := hBL1.trans (hL2.mono (by omega)); have hxL2 := zh hxL1 (by omega) hL2; have hyL2 := zh hyL1 (by omega) hL2; have hzL2 := zgy hzL1 hL2.size; clear hxL1 hyL1; have cx := hxL2 6; have cy := hyL2 6; simp only [zgd, zgb, zgc] at cx cy; have hlen2 := zao m6
   by_cases hlt : k2 < x.T.length
   ·obtain ⟨b, off, rfl, hbs, _⟩ := zl m6 (by omega)
    obtain ⟨b', off', rfl, hbs', _⟩ := zl m6' (by omega)
    have hlt' : k2 < y.T.length := by omega
    obtain ⟨d0, _⟩ := zan (m6.below hBL2) hlt; obtain ⟨d0', _⟩ := zan (m6'.below hBL2) hlt'
    cases he : (x.T[k2] == y.T[k2])
    all_goals have HE0 : Hid (eqV (zv x.T[k2]) (zv y.T[k2]) = (x.T[k2] == y.T[k2])) := zgn (by simp only [zv, zb2]; rfl)
    ·have HE := zgn (HE0.out.trans he)
     have hne : (x.T[k2] != y.T[k2]) = true := by rw [bne, he]; rfl
     go_wp2_with fail; have qd0 := cell_regrown d0; have qd0' := cell_regrown d0'; have qcx := cell_regrown cx; have qcy := cell_regrown cy; refine wp_region_quiet_below (by kernel_rfl) (by kernel_rfl) ?_
     repeat (quiet_step (fail))
     refine wpQuiet_nil ?_; intro wq0 hwq; obtain ⟨⟨dq, osq⟩, hwq⟩ := hwq; have hbq0 : Below wr.heap.size wr wq0 := hwq ▸ below_regrown wr dq osq; clear hwq qcx qcy qd0 qd0'
     try rw [he]
     go_wp2_with fail; go_ret; exact ⟨retB (Atm.eqv_times (za1 hlt hlt' HE.out)).symm, hBL2.trans (hbq0.mono (by omega))⟩
    ·have HE := zgn (HE0.out.trans he)
     have hne : (x.T[k2] != y.T[k2]) = false := by rw [bne, he]; rfl
     go_wp2_with fail; have qd0 := cell_regrown d0; have qd0' := cell_regrown d0'; have qcx := cell_regrown cx; have qcy := cell_regrown cy; refine wp_region_quiet_below (by kernel_rfl) (by kernel_rfl) ?_
     repeat (quiet_step (fail))
     refine wpQuiet_nil ?_; intro wq0 hwq; obtain ⟨⟨dq, osq⟩, hwq⟩ := hwq; have hbq0 : Below wr.heap.size wr wq0 := hwq ▸ below_regrown wr dq osq; clear hwq qcx qcy qd0 qd0'; go_wp2_with fail; go_roundw
     case rel => exact ⟨k2 + 1, by omega, by go_num, hall2.out.succ hlt hlt' HE.out, hL2.trans (hbq0.mono (by have := hL2.size; omega))⟩
     case measure => simp [intOf]; omega
   have HT_times := zgn (hall2.out.all (by omega) (by omega)); clear cx cy; go_wp2_with fail; go_ret; exact ⟨retB (by rw [Atm.eqv, HT_kind.out, HT_a.out, HT_b.out, HT_bound.out, HT_strict.out, HT_nums.out, HT_times.out]; rfl), hBL2⟩
theorem Atm.zero_rd (w : World) : RdVs w Atm.zero.cd yZl [] :=
 Atm.close (w := w) (x := Atm.zero) (a2 := none) (c2 := 0) (f2 := []) (a4 := none) (c4 := 0) (f4 := []) (a5 := none) (c5 := 0) (f5 := []) (a6 := none) (c6 := 0) (f6 := []) (by simp [I64, Atm.zero]) (zgx _) (zbi w Tm.cd) (zgx _) (zbi w Tm.cd) (zbi w Tm.cd) (zbi w zv) (by simp [I64, Atm.zero])
theorem zbn (k : Int) (w : World) : Calls Tryz.prog 112 #[.int .i64 k] w fun e w' => e = .returned (.int .i64 (Fm.nk k)) ∧ w = w' := by
 by_cases h1 : k = 1
 ·subst h1
  go_enter Tryz.func112, Tryz.ntmps112; go_wp2_with fail; go_ret; exact ⟨rfl, rfl⟩
 by_cases h2 : k = 2
 ·subst h2
  go_enter Tryz.func112, Tryz.ntmps112; go_wp2_with fail; go_ret; exact ⟨rfl, rfl⟩
 by_cases h3 : k = 3
 ·subst h3
  go_enter Tryz.func112, Tryz.ntmps112; go_wp2_with fail; go_ret; exact ⟨rfl, rfl⟩
 by_cases h4 : k = 4
 ·subst h4
  go_enter Tryz.func112, Tryz.ntmps112; go_wp2_with fail; go_ret; exact ⟨rfl, rfl⟩
 by_cases h5 : k = 5
 ·subst h5
  go_enter Tryz.func112, Tryz.ntmps112; go_wp2_with fail; go_ret; exact ⟨rfl, rfl⟩
 by_cases h6 : k = 6
 ·subst h6
  go_enter Tryz.func112, Tryz.ntmps112; go_wp2_with fail; go_ret; exact ⟨rfl, rfl⟩
 have HN := zgn (show Fm.nk k = -1 by unfold Fm.nk; rw [if_neg h1, if_neg h2, if_neg h3, if_neg h4, if_neg h5, if_neg h6])
 have t1 : (k == 1) = false := by simp [h1]
 have t2 : (k == 2) = false := by simp [h2]
 have t3 : (k == 3) = false := by simp [h3]
 have t4 : (k == 4) = false := by simp [h4]
 have t5 : (k == 5) = false := by simp [h5]
 have t6 : (k == 6) = false := by simp [h6]
 clear h1 h2 h3 h4 h5 h6; go_enter Tryz.func112, Tryz.ntmps112; go_wp2_with fail; go_ret; exact ⟨retI HN.out.symm, rfl⟩
theorem zeG (x : Lt) (vs : List Value) (f : List Nat) (w : World) (hv : RdVs w x.cd vs f) : Calls Tryz.prog 113 #[.agg vs.toArray] w fun e w' => e = .returned (.bool x.bare) ∧ Below w.heap.size w w' := by
 obtain ⟨a2, c2, f2, a4, c4, f4, a5, c5, f5, a6, c6, f6, rfl, _, m0, m1, m2, m3, m4, m5, m6, m7⟩ := Lt.open hv; have hat := Atm.close m0 m1 m2 m3 m4 m5 m6 m7
 cases hno : x.no
 ·have HB := zgn (show x.bare = eqV x.M.cd Atm.zero.cd by unfold Lt.bare; rw [hno]; simp)
  go_enter Tryz.func113, Tryz.ntmps113; go_wp2_with fail; refine (zcz x.M Atm.zero _ _ _ _ _ (by exact hat.below (zb _ _)) (by exact Atm.zero_rd _)).mono ?_; rintro e w1 ⟨rfl, hb⟩; go_wp2_with fail; go_ret; exact ⟨retB HB.out.symm, (zb _ _).trans (hb.mono (by simp))⟩
 ·have HB := zgn (show x.bare = false by unfold Lt.bare; rw [hno]; simp)
  go_enter Tryz.func113, Tryz.ntmps113; go_wp2_with fail; go_ret; exact ⟨retB HB.out.symm, zb _ _⟩
theorem zfu (n : Nat) : ∀ (f : Fm) (deep : Int) (vs : List Value) (ff : List Nat) (w : World), ndV f.cd ≤ n → wtV f.cd ≤ 1048576 → 0 ≤ deep → deep ≤ 6 → RdVs w f.cd vs ff →
  Calls Tryz.prog 79 #[.agg vs.toArray, .int .i64 deep] w fun e w' => e = .returned (.int .i64 ((Fm.sz deep.toNat f : Nat) : Int)) ∧ Below w.heap.size w w' := by
 induction n with
 | zero =>
  intro f deep vs ff w hn; have h : 0 < ndV f.cd := by rw [Fm.cd_eq]; simp [ndV, ndC]; try omega
  omega
 | succ n ih =>
 intro f deep vs ff w hn hbig hd0 hd6 hv
 have HN : Hid (∀ k ∈ f.K, ndV k.cd ≤ n) := fun k hk => by have := Fm.kid_nd hk; omega
 have IH := zgn ih; clear ih; obtain ⟨a3, c3, f3, a5, c5, f5, a6, c6, f6, a7, c7, f7, a11, c11, f11, rfl, -, m0, m1, m2, m3, m4, m5, m6, m7, m8, m9⟩ := Fm.open hv; clear hv; have hat := Atm.close (x := f.L.M) m1 m2 m3 m4 m5 m6 m7 m8; have hli := Lt.close (x := f.L) m1 m2 m3 m4 m5 m6 m7 m8; have hw := Fm.wt_eq f; have hE := Fm.sz_eq deep.toNat f
 by_cases hd : 5 < deep
 ·rw [if_pos (.inl (by omega))] at hE
  have HE := zgn hE; clear hE; go_enter Tryz.func79, Tryz.ntmps79; go_wp2_with fail; refine (zbn _ _).mono ?_; rintro e w1 ⟨rfl, rfl⟩; go_wp2_with fail; go_ret
  exact ⟨retI (by rw [HE.out]; try rfl), zb _ _⟩
 by_cases hk : Fm.nk f.kind = (f.K.length : Int)
 rotate_left
 ·rw [if_pos (.inr (.inl hk))] at hE
  have HE := zgn hE; clear hE
  have tk : (Fm.nk f.kind != (f.K.length : Int)) = true := by simp [hk]
  clear hk; go_enter Tryz.func79, Tryz.ntmps79; go_wp2_with fail; refine (zbn _ _).mono ?_; rintro e w1 ⟨rfl, rfl⟩; go_wp2_with fail; go_ret
  exact ⟨retI (by rw [HE.out]; try rfl), zb _ _⟩
 have tk : (Fm.nk f.kind != (f.K.length : Int)) = false := by simp [hk]
 have hsm := Lt.small_of (x := f.L) (by omega)
 by_cases h0 : Fm.nk f.kind = 0
 ·have t0 : (Fm.nk f.kind == 0) = true := by simp [h0]
  have t1 : (Fm.nk f.kind != 0) = false := by simp [h0]
  have HE2 := zgn (show f.L.M.okB = false → Fm.sz deep.toNat f = 11 from fun h => by rw [hE, if_pos (.inr (.inr (.inl ⟨h0, h⟩)))])
  have HE1 := zgn (show f.L.M.okB = true → Fm.sz deep.toNat f = 1 + Fm.szs (deep.toNat + 1) f.K from fun h => by
   rw [hE, if_neg]; rintro (h' | h' | h' | h')
   ·omega
   ·exact h' hk
   ·rw [h] at h'; exact absurd h'.2 (by simp)
   ·exact h'.1 h0)
  clear hE h0 hk; go_enter Tryz.func79, Tryz.ntmps79; go_wp2_with fail; refine (zbn _ _).mono ?_; rintro e w1 ⟨rfl, rfl⟩; go_wp2_with fail; refine (zdn f.L.M _ _ _ hsm (by exact hat.below (zb _ _))).mono ?_; rintro e w1 ⟨rfl, hb1⟩; obtain ⟨hx, hz1, hB⟩ := box1 (w := w) (wr := w1) (cs := (yTa f a3 c3 a5 c5 a6 c6 a7 c7 a11 c11)) (T := 36) (zm hb1 (by simp)); obtain ⟨C0, C1, C2, C3, C4, C5, C6, C7, C8, C9, C10, C11⟩ := yQ12 hx; simp only [zgd, zgb, zgc] at C0 C1 C2 C3 C4 C5 C6 C7 C8 C9 C10 C11; clear hb1 hx
  cases hok : f.L.M.okB
  ·have HE := zgn (HE2.out hok)
   clear hok; go_wp2_with fail; go_ret
   exact ⟨retI (by rw [HE.out]; try rfl), hB⟩
  have HE := zgn (HE1.out hok); clear hok; go_wp2_with fail
  go_loopw [6, 45] (fun nv i wr => ∃ k : Nat, k ≤ f.K.length ∧ i = .int .i64 k ∧ nv = .int .i64 ((1 + Fm.szs (deep.toNat + 1) (f.K.take k) : Nat) : Int) ∧ Below w.heap.size w wr) (fun _ i _ => f.K.length - (intOf i).toNat)
  case atStart => exact ⟨0, zgx _, rfl, rfl, hB⟩
  case round =>
   obtain ⟨k, hkl, rfl, rfl, hb⟩ := hrel; have hz := hb.size; have bd1 := Fm.szs_le (f.K.take k) (deep.toNat + 1); have bd3 := zu Fm.cd f.K k; rw [← List.map_take] at bd3
   have bd4 : (f.K.take k).length ≤ f.K.length := by simp; omega
   by_cases hlt : k < f.K.length
   ·obtain ⟨b, off, rfl, hbs, _⟩ := zl m9 (by omega)
    obtain ⟨b3, e3, g3, b5, e5, g5, b6, e6, g6, b7, e7, g7, b11, e11, g11, d0, d1, d2, d3, d4, d5, d6, d7, d8, d9, d10, d11, n0, n1, n2, n3, n4, n5, n6, n7, n8, n9, _⟩ := Fm.at (m9.below hb) hlt
    have hbz : b < wr.heap.size := by omega
    have hle := zu Fm.cd f.K (k + 1); rw [zC Fm.cd f.K k hlt] at hle; have bd2 := Fm.sz_le f.K[k] (deep.toNat + 1)
    have hdd : (deep + 1).toNat = deep.toNat + 1 := by omega
    have HDD := zgn hdd; clear hdd; go_wp2_with fail; refine (IH.out f.K[k] (deep + 1) _ _ _ (HN.out _ (zgh hlt)) (by omega) (by omega) (by omega) (by exact (Fm.close n0 n1 n2 n3 n4 n5 n6 n7 n8 n9).below (zb _ _))).mono ?_; rintro e w2 ⟨rfl, hb2⟩; rw [HDD.out]; go_wp2_with fail; go_roundw
    case rel => exact ⟨k + 1, by omega, by go_num, by rw [Fm.szs_succ _ _ _ hlt]; go_num, (hb.alloc hz _).trans (hb2.mono (by simp; omega))⟩
    case measure => simp [intOf]; omega
   ·have he : f.K.take k = f.K := zgq (by omega)
    rw [he]; rw [he] at bd1 bd3 bd4; go_wp2_with fail; go_ret
    exact ⟨retI (by rw [HE.out]; try rfl), hb⟩
 ·have t0 : (Fm.nk f.kind == 0) = false := by simp [h0]
  have t1 : (Fm.nk f.kind != 0) = true := by simp [h0]
  have HE2 := zgn (show f.L.bare = false → Fm.sz deep.toNat f = 11 from fun h => by rw [hE, if_pos (.inr (.inr (.inr ⟨h0, h⟩)))])
  have HE1 := zgn (show f.L.bare = true → Fm.sz deep.toNat f = 1 + Fm.szs (deep.toNat + 1) f.K from fun h => by
   rw [hE, if_neg]; rintro (h' | h' | h' | h')
   ·omega
   ·exact h' hk
   ·exact h0 h'.1
   ·rw [h] at h'; exact absurd h'.2 (by simp))
  clear hE h0 hk; go_enter Tryz.func79, Tryz.ntmps79; go_wp2_with fail; refine (zbn _ _).mono ?_; rintro e w1 ⟨rfl, rfl⟩; go_wp2_with fail; refine (zeG f.L _ _ _ (by exact hli.below (zb _ _))).mono ?_; rintro e w1 ⟨rfl, hb1⟩; obtain ⟨hx, hz1, hB⟩ := box1 (w := w) (wr := w1) (cs := (yTa f a3 c3 a5 c5 a6 c6 a7 c7 a11 c11)) (T := 36) (zm hb1 (by simp)); obtain ⟨C0, C1, C2, C3, C4, C5, C6, C7, C8, C9, C10, C11⟩ := yQ12 hx; simp only [zgd, zgb, zgc] at C0 C1 C2 C3 C4 C5 C6 C7 C8 C9 C10 C11; clear hb1 hx
  cases hok : f.L.bare
  ·have HE := zgn (HE2.out hok)
   clear hok; go_wp2_with fail; go_ret
   exact ⟨retI (by rw [HE.out]; try rfl), hB⟩
  have HE := zgn (HE1.out hok); clear hok; go_wp2_with fail
  go_loopw [6, 45] (fun nv i wr => ∃ k : Nat, k ≤ f.K.length ∧ i = .int .i64 k ∧ nv = .int .i64 ((1 + Fm.szs (deep.toNat + 1) (f.K.take k) : Nat) : Int) ∧ Below w.heap.size w wr) (fun _ i _ => f.K.length - (intOf i).toNat)
  case atStart => exact ⟨0, zgx _, rfl, rfl, hB⟩
  case round =>
   obtain ⟨k, hkl, rfl, rfl, hb⟩ := hrel; have hz := hb.size; have bd1 := Fm.szs_le (f.K.take k) (deep.toNat + 1); have bd3 := zu Fm.cd f.K k; rw [← List.map_take] at bd3
   have bd4 : (f.K.take k).length ≤ f.K.length := by simp; omega
   by_cases hlt : k < f.K.length
   ·obtain ⟨b, off, rfl, hbs, _⟩ := zl m9 (by omega)
    obtain ⟨b3, e3, g3, b5, e5, g5, b6, e6, g6, b7, e7, g7, b11, e11, g11, d0, d1, d2, d3, d4, d5, d6, d7, d8, d9, d10, d11, n0, n1, n2, n3, n4, n5, n6, n7, n8, n9, _⟩ := Fm.at (m9.below hb) hlt
    have hbz : b < wr.heap.size := by omega
    have hle := zu Fm.cd f.K (k + 1); rw [zC Fm.cd f.K k hlt] at hle; have bd2 := Fm.sz_le f.K[k] (deep.toNat + 1)
    have hdd : (deep + 1).toNat = deep.toNat + 1 := by omega
    have HDD := zgn hdd; clear hdd; go_wp2_with fail; refine (IH.out f.K[k] (deep + 1) _ _ _ (HN.out _ (zgh hlt)) (by omega) (by omega) (by omega) (by exact (Fm.close n0 n1 n2 n3 n4 n5 n6 n7 n8 n9).below (zb _ _))).mono ?_; rintro e w2 ⟨rfl, hb2⟩; rw [HDD.out]; go_wp2_with fail; go_roundw
    case rel => exact ⟨k + 1, by omega, by go_num, by rw [Fm.szs_succ _ _ _ hlt]; go_num, (hb.alloc hz _).trans (hb2.mono (by simp; omega))⟩
    case measure => simp [intOf]; omega
   ·have he : f.K.take k = f.K := zgq (by omega)
    rw [he]; rw [he] at bd1 bd3 bd4; go_wp2_with fail; go_ret
    exact ⟨retI (by rw [HE.out]; try rfl), hb⟩
theorem zfv (f : Fm) (deep : Int) (vs : List Value) (ff : List Nat) (w : World) (hbig : wtV f.cd ≤ 1048576) (h0 : 0 ≤ deep) (h6 : deep ≤ 6) (hv : RdVs w f.cd vs ff) :
  Calls Tryz.prog 79 #[.agg vs.toArray, .int .i64 deep] w fun e w' => e = .returned (.int .i64 ((Fm.sz deep.toNat f : Nat) : Int)) ∧ Below w.heap.size w w' := zfu _ f deep vs ff w (zgo _) hbig h0 h6 hv
end Go.Proofs.YtbfinjiledfpcaaGreat
end
namespace Go.Proofs.YtbfinjiledfpcaaGreat
open Go Go.RowKit
set_option linter.unusedVariables false
set_option linter.unusedSimpArgs false
set_option maxHeartbeats 1600000
theorem Lt.of_atom {w : World} {x : Lt} {vs : List Value} {f : List Nat} (h : RdVs w x.M.cd vs f) : RdVs w x.cd (vs ++ [.bool x.no]) f := by
 have h1 := h.app (zbk (b := x.no))
 simpa [Lt.cd] using h1
theorem zd5 (n : Nat) : ∀ (x : Fm) (vs : List Value) (fp : List Nat) (w : World), ndV x.cd ≤ n → wtV x.cd ≤ 1048576 → RdVs w x.cd vs fp → Calls Tryz.prog 101 #[.agg vs.toArray] w (zbg x.cd w) := by
 induction n with
 | zero => intro x vs fp w hn; have h : 0 < ndV x.cd := (by rw [Fm.cd_eq]; simp [ndV, ndC]; try omega); omega
 | succ n ih =>
  intro x vs fp w hn hbig hv
  have HK : Hid (∀ k ∈ x.K, ndV k.cd ≤ n) := fun k hk => by have := Fm.kid_nd hk; omega
  have IH := zgn ih; clear ih; obtain ⟨a3, c3, f3, a5, c5, f5, a6, c6, f6, a7, c7, f7, a11, c11, f11, rfl, -, m0, m1, m2, m3, m4, m5, m6, m7, m8, m9⟩ := Fm.open hv
  have hw : wtV x.cd = wtV x.L.cd + (x.K.length + wtR (x.K.map Fm.cd)) := by rw [Fm.cd_eq]; simp only [zI, zaS, zav, zb0, zaj]; try omega
  rw [hw] at hbig; clear hw hv; go_enter Tryz.func101, Tryz.ntmps101; go_wp2_with fail; refine (zcB x.L.M _ _ _ (Lt.small_of (x := x.L) (by omega)) (Lt.times_ok (x := x.L) (by omega)) (by exact (Atm.close m1 m2 m3 m4 m5 m6 m7 m8).below (((zgz _ _).alloc (zgo _) _).alloc (by simp) _))).mono ?_; rintro e w1 ⟨kv1, g1, rfl, hr1, hf1, hb1⟩; have hbx : Below (w.heap.size + 1 + 1) _ w1 := zm hb1 (by simp); obtain ⟨ho1, hy1, hz1, hB1⟩ := box2 hbx; have fo1 : ∀ j, w1.frozen? ⟨w.heap.size, j, none⟩ = false := fun j => (zJ hbx j).1; have fy1 : ∀ j, w1.frozen? ⟨w.heap.size + 1, j, none⟩ = false := fun j => (zJ hbx j).2; clear hbx; have hf1 : Fresh (w.heap.size + 1 + 1) w1 g1 := hf1.mono (by simp); have hF1 := hf1; obtain ⟨b3, e3, gg1_2, b5, e5, gg1_4, b6, e6, gg1_5, b7, e7, gg1_6, rfl, -, _, _, _, _, _, _, _, _⟩ := Atm.open hr1; clear hb1; go_wp2_with fail; have hoA := zw (b := w.heap.size) [(1, .int .i64 x.L.M.kind), (2, .string x.L.M.a.name), (3, .slice b3 x.L.M.a.K.length e3), (4, .string x.L.M.b.name), (5, .slice b5 x.L.M.b.K.length e5), (6, .slice b6 x.L.M.N.length e6), (7, .slice b7 x.L.M.T.length e7), (8, .int .i64 x.L.M.O), (9, .bool x.L.M.C)] ho1 (by simp); have hyA := zaw (b' := w.heap.size) (by omega) [(1, .int .i64 x.L.M.kind), (2, .string x.L.M.a.name), (3, .slice b3 x.L.M.a.K.length e3), (4, .string x.L.M.b.name), (5, .slice b5 x.L.M.b.K.length e5), (6, .slice b6 x.L.M.N.length e6), (7, .slice b7 x.L.M.T.length e7), (8, .int .i64 x.L.M.O), (9, .bool x.L.M.C)] hy1; have fyA := zak (b' := w.heap.size) [(1, .int .i64 x.L.M.kind), (2, .string x.L.M.a.name), (3, .slice b3 x.L.M.a.K.length e3), (4, .string x.L.M.b.name), (5, .slice b5 x.L.M.b.K.length e5), (6, .slice b6 x.L.M.N.length e6), (7, .slice b7 x.L.M.T.length e7), (8, .int .i64 x.L.M.O), (9, .bool x.L.M.C)] fy1; have foA := zak (b' := w.heap.size) [(1, .int .i64 x.L.M.kind), (2, .string x.L.M.a.name), (3, .slice b3 x.L.M.a.K.length e3), (4, .string x.L.M.b.name), (5, .slice b5 x.L.M.b.K.length e5), (6, .slice b6 x.L.M.N.length e6), (7, .slice b7 x.L.M.T.length e7), (8, .int .i64 x.L.M.O), (9, .bool x.L.M.C)] fo1; have hLA := Loc.sets (b := w.heap.size) (lo := w.heap.size) (hi := w.heap.size + 1 + 1) (by omega) (by omega) [(1, .int .i64 x.L.M.kind), (2, .string x.L.M.a.name), (3, .slice b3 x.L.M.a.K.length e3), (4, .string x.L.M.b.name), (5, .slice b5 x.L.M.b.K.length e5), (6, .slice b6 x.L.M.N.length e6), (7, .slice b7 x.L.M.T.length e7), (8, .int .i64 x.L.M.O), (9, .bool x.L.M.C)] (Loc.refl _ _ w1); have hBA := hB1.trans (hLA.toBelow (B := w.heap.size) (by omega) (zgo _)); have hsA := hLA.size
  try simp only [zi, zag, zfZ, zga] at hoA hyA fyA foA hLA hBA hsA
  clear hy1 ho1 fy1 fo1; refine (zdo n IH.out x.K _ _ _ HK.out (by omega) (by exact m9.below hBA)).mono ?_; rintro e w2 ⟨kv2, g2, rfl, hr2, hf2, hb2⟩; have hzA : w.heap.size + 1 + 1 ≤ _ := zgy hz1 hsA; have hy2 := zh hyA (by omega) hb2; have ho2 := zh hoA (by omega) hb2; have fy2 := zK fyA (by omega) hb2; have fo2 := zK foA (by omega) hb2; have hL2 : Loc w.heap.size (w.heap.size + 1 + 1) w1 w2 := hLA.below hb2; have hz2 := zgy hz1 hL2.size; have hB2 := hB1.trans (hL2.toBelow (by omega) (zgo _)); have hf2' : Fresh w1.heap.size w2 g2 := hf2.mono hsA; have hf2 : Fresh (w.heap.size + 1 + 1) w2 g2 := hf2'.mono hz1; have hF2 := Fresh.app2 (hF1.same (hL2.same (w0 := w) hF1)) hF1.lt hf2' (by omega); have hr1 := hr1.same _ (hL2.same (w0 := w) hf1); have hf1 := hf1.same (hL2.same (w0 := w) hf1); clear hoA hyA fyA foA hLA hBA hsA hzA; obtain ⟨b11, e11, rfl, _⟩ := zg hr2; clear hb2; go_upto_region 3 with (fail); have hoA := zw (b := w.heap.size) [(11, .slice b11 x.K.length e11)] ho2 (by simp); have hyA := zaw (b' := w.heap.size) (by omega) [(11, .slice b11 x.K.length e11)] hy2; have fyA := zak (b' := w.heap.size) [(11, .slice b11 x.K.length e11)] fy2; have foA := zak (b' := w.heap.size) [(11, .slice b11 x.K.length e11)] fo2; have hLA := Loc.sets (b := w.heap.size) (lo := w.heap.size) (hi := w.heap.size + 1 + 1) (by omega) (by omega) [(11, .slice b11 x.K.length e11)] (Loc.refl _ _ w2); simp only [zag, zfZ, zga] at hoA; obtain ⟨wx, hwx⟩ : ∃ wx, wx = zi (w.heap.size) [(11, .slice b11 x.K.length e11)] w2 := ⟨_, rfl⟩
  change Code.wp _ _ _ _ (zi (w.heap.size) [(11, .slice b11 x.K.length e11)] w2)
  rw [← hwx] at hoA hyA fyA foA hLA ⊢; have hsA := hLA.size; clear hwx hy2 ho2 fy2 fo2; go_wp2_with fail; have hres := zw (b := w.heap.size + 1) (yTp x b3 e3 b5 e5 b6 e6 b7 e7 b11 e11) hyA (by simp); have hL := Loc.sets (b := w.heap.size + 1) (by omega) (by omega) (yTp x b3 e3 b5 e5 b6 e6 b7 e7 b11 e11) hLA; simp only [zi, zag, zfZ, zga] at hres hL; have hr1 := hr1.same _ (hL.same (w0 := w) hf1); have hr2 := hr2.same _ (hL.same (w0 := w) hf2); have hfin := hF2.same (hL.same (w0 := w) hF2); refine bodyPost_ret (v := .agg (yTa x b3 e3 b5 e5 b6 e6 b7 e7 b11 e11)) (by simp [results, Tryz.results101, go_sem, hres]) rfl ⟨(yTl x b3 e3 b5 e5 b6 e6 b7 e7 b11 e11), [] ++ (g1 ++ g2), rfl, ?_, ?_, hB2.trans (hL.toBelow (by omega) (zgo _))⟩
  ·rw [Fm.cd_eq]
   exact ((zaM m0).app ((Lt.of_atom hr1).app (RdVs.single hr2)))
  ·have hx := hfin.mono (lo' := w.heap.size) (by omega)
   simpa [List.append_assoc] using hx
theorem zfw (xs : List Fm) (v : Value) (fp0 : List Nat) (w : World) (hbig : xs.length + wtR (xs.map Fm.cd) ≤ 1048576) (hv : Rd w (.sl (xs.map Fm.cd)) v fp0) :
  Calls Tryz.prog 59 #[v] w (zda (.sl (xs.map Fm.cd)) w) :=
 zdo (ndR (xs.map Fm.cd)) (zd5 _) xs v fp0 w (fun x hx => Nat.le_of_lt (zdy (List.mem_map_of_mem hx))) hbig hv
theorem formOwn_x (x : Fm) (vs : List Value) (fp : List Nat) (w : World) (hbig : wtV x.cd ≤ 1048576) (hv : RdVs w x.cd vs fp) :
  Calls Tryz.prog 101 #[.agg vs.toArray] w (zbg x.cd w) := zd5 _ x vs fp w (zgo _) hbig hv
end Go.Proofs.YtbfinjiledfpcaaGreat
section
namespace Go.Proofs.YtbfinjiledfpcaaGreat
open Go Go.RowKit
set_option linter.unusedVariables false
set_option linter.unusedSimpArgs false
set_option maxRecDepth 100000
set_option maxHeartbeats 16000000
theorem zdF (x y : Atm) (us : List Value) (g : List Nat) (pb : Nat) (a2 : Option Addr) (c2 : Nat) (a4 : Option Addr) (c4 : Nat) (a5 : Option Addr) (c5 : Nat) (a6 : Option Addr) (c6 : Nat) (f : List Nat) (w : World) (hp : ∀ j, w.cell? ⟨pb, j, none⟩ = ((yNa x a2 c2 a4 c4 a5 c5 a6 c6) : Array Value)[j]?) (hx : RdVs w x.cd (yNl x a2 c2 a4 c4 a5 c5 a6 c6) f) (hy : RdVs w y.cd us g) :
  Calls Tryz.prog 115 #[.agg us.toArray, .pointer (some ⟨pb, 0, none⟩)] w fun e w' => e = .returned (.bool (eqV x.cd y.cd)) ∧ Below w.heap.size w w' := by
 have hpz : pb < w.heap.size := World.block_lt_of_cell? w _ (hp 0); obtain ⟨a2y, c2y, f2y, a4y, c4y, f4y, a5y, c5y, f5y, a6y, c6y, f6y, rfl, -, m0y, m1y, m2y, m3y, m4y, m5y, m6y, m7y⟩ := Atm.open hy; have hp' := zh hp hpz (zb w (.cells (yNa y a2y c2y a4y c4y a5y c5y a6y c6y) 31)); obtain ⟨C0, C1, C2, C3, C4, C5, C6, C7, C8⟩ := yQ9 hp'; simp only [zgd, zgb, zgc] at C0 C1 C2 C3 C4 C5 C6 C7 C8; clear hp hp'; go_enter Tryz.func115, Tryz.ntmps115; go_wp2_with fail; refine (zcz x y _ _ _ _ _ (by exact hx.below (zb _ _)) (by exact hy.below (zb _ _))).mono ?_; rintro e w1 ⟨rfl, hb1⟩; go_wp2_with fail; go_ret; exact ⟨rfl, (zb _ _).trans (hb1.mono (by simp))⟩
theorem zcj (x : Atm) (l : List Atm) (v : Value) (g : List Nat) (pb : Nat) (a2 : Option Addr) (c2 : Nat) (a4 : Option Addr) (c4 : Nat) (a5 : Option Addr) (c5 : Nat) (a6 : Option Addr) (c6 : Nat) (f : List Nat) (w : World) (hp : ∀ j, w.cell? ⟨pb, j, none⟩ = ((yNa x a2 c2 a4 c4 a5 c5 a6 c6) : Array Value)[j]?) (hx : RdVs w x.cd (yNl x a2 c2 a4 c4 a5 c5 a6 c6) f) (hl : Rd w (.sl (l.map Atm.cd)) v g) :
  Calls Tryz.prog 114 #[v, .func (.func 115) #[] #[.pointer (some ⟨pb, 0, none⟩)]] w fun e w' => (∃ n, e = .returned (.int .i64 n) ∧ FirstOf (fun y => eqV y.cd x.cd) l n) ∧ Below w.heap.size w w' := by
 obtain ⟨a, cap, rfl, hc1, hc2⟩ := zg hl; have hpz : pb < w.heap.size := World.block_lt_of_cell? w _ (hp 0); go_enter Tryz.func114, Tryz.ntmps114; go_wp2_with fail
 go_loopw [5, 8] (fun _ i wr => ∃ k : Nat, k ≤ l.length ∧ i = .int .i64 k ∧ Hid ((l.take k).all (fun t => !eqV t.cd x.cd) = true) ∧ Below w.heap.size w wr) (fun _ i _ => l.length - (intOf i).toNat)
 case atStart => exact ⟨0, zgx _, rfl, zgn (by simp), zgz _ _⟩
 case round =>
  obtain ⟨k, hkl, rfl, hall, hb⟩ := hrel; have hz := hb.size
  by_cases hlt : k < l.length
  ·obtain ⟨b, off, rfl, hbs, _⟩ := zl hl (by omega)
   obtain ⟨a2y, c2y, f2y, a4y, c4y, f4y, a5y, c5y, f5y, a6y, c6y, f6y, d0y, d1y, d2y, d3y, d4y, d5y, d6y, d7y, d8y, n0y, n1y, n2y, n3y, n4y, n5y, n6y, n7y, hsuby⟩ := Atm.at (hl.below hb) hlt
   have hbz : b < wr.heap.size := by omega
   go_wp2_with fail; refine (zdF x l[k] _ _ pb _ _ _ _ _ _ _ _ _ _ (zh hp hpz hb) (hx.below hb) (by exact Atm.close n0y n1y n2y n3y n4y n5y n6y n7y)).mono ?_; rintro e w2 ⟨rfl, hb2⟩; rw [eqV_comm]
   cases he : eqV l[k].cd x.cd
   ·have HE := zgn (FirstOf.succ hlt hall.out he)
    clear he; go_wp2_with fail; go_roundw
    case rel => exact ⟨k + 1, by omega, by go_num, HE, hb.trans (hb2.mono hz)⟩
    case measure => simp [intOf]; omega
   ·have HE : Hid (FirstOf (fun y => eqV y.cd x.cd) l (k : Int)) := zgn (.inr ⟨k, hlt, rfl, he, hall.out⟩)
    clear he; go_wp2_with fail; go_ret; exact ⟨⟨k, rfl, HE.out⟩, hb.trans (hb2.mono hz)⟩
  ·have HE : Hid (FirstOf (fun y => eqV y.cd x.cd) l (-1)) := zgn (.inl ⟨rfl, by have := hall.out; rwa [zgq (by omega)] at this⟩)
   go_wp2_with fail; go_ret; exact ⟨⟨-1, rfl, HE.out⟩, hb⟩
theorem zdG (x : Atm) (l : List Atm) (v : Value) (vs : List Value) (g f : List Nat) (w : World) (hl : Rd w (.sl (l.map Atm.cd)) v g) (hx : RdVs w x.cd vs f) :
  Calls Tryz.prog 80 #[v, .agg vs.toArray] w fun e w' => (∃ n, e = .returned (.int .i64 n) ∧ FirstOf (fun y => eqV y.cd x.cd) l n) ∧ Below w.heap.size w w' := by
 obtain ⟨a, cap, rfl, hc1, hc2⟩ := zg hl; obtain ⟨a2, c2, f2, a4, c4, f4, a5, c5, f5, a6, c6, f6, rfl, -, m0, m1, m2, m3, m4, m5, m6, m7⟩ := Atm.open hx; have hba := zb w (.cells (yNa x a2 c2 a4 c4 a5 c5 a6 c6) 31); have hp := zt w (yNa x a2 c2 a4 c4 a5 c5 a6 c6) 31; go_enter Tryz.func80, Tryz.ntmps80; go_wp2_with fail; refine (zcj x l _ _ _ _ _ _ _ _ _ _ _ _ _ hp (by exact hx.below hba) (by exact hl.below hba)).mono ?_; rintro e w1 ⟨⟨n, rfl, hn⟩, hb1⟩; have HN := zgn hn; clear hn; go_wp2_with fail; go_ret; exact ⟨⟨n, rfl, HN.out⟩, hba.trans (hb1.mono hba.size)⟩
theorem zcC (n : Nat) : ∀ (f : Fm) (l : List Atm) (vs : List Value) (ff : List Nat) (lv : Value) (fp : List Nat) (base : Nat) (w : World), ndV f.cd ≤ n → wtV f.cd ≤ 1048576 → l.length + wtV f.cd ≤ 1000000000 → base ≤ w.heap.size →
   Own w base 31 9 lv (l.map Atm.cd) fp → Fresh base w fp → RdVs w f.cd vs ff → (∀ y ∈ ff, lv.ownBlock ≠ some y) →
  Calls Tryz.prog 39 #[lv, .agg vs.toArray] w fun e w' => ∃ lv' fp', e = .returned lv' ∧ Own w' base 31 9 lv' ((Fm.add l f).map Atm.cd) fp' ∧ Fresh base w' fp' ∧ Moved w lv w' lv' := by
 induction n with
 | zero =>
  intro f l vs ff lv fp base w hn; have h : 0 < ndV f.cd := by rw [Fm.cd_eq]; simp [ndV, ndC]; try omega
  omega
 | succ n ih =>
 intro f l vs ff lv fp base w hn hbig hsum hbase hown0 hfr0 hv hna0
 have HN : Hid (∀ k ∈ f.K, ndV k.cd ≤ n) := fun k hk => by have := Fm.kid_nd hk; omega
 have IH := zgn ih; clear ih; obtain ⟨a3, c3, f3, a5, c5, f5, a6, c6, f6, a7, c7, f7, a11, c11, f11, rfl, hff, m0, m1, m2, m3, m4, m5, m6, m7, m8, m9⟩ := Fm.open hv; have HFF := zgn hff; clear hv hff; have hat := Atm.close (x := f.L.M) m1 m2 m3 m4 m5 m6 m7 m8; have hw := Fm.wt_eq f; have hsm := Lt.small_of (x := f.L) (by omega); have hbt := Lt.times_ok (x := f.L) (by omega); have hba := zb w (.cells (yTa f a3 c3 a5 c5 a6 c6 a7 c7 a11 c11) 36); have hp := zt w (yTa f a3 c3 a5 c5 a6 c6 a7 c7 a11 c11) 36; have hown := hown0.below hba; have hfr := hfr0.below hba; clear hown0 hfr0; have hk := m9.below hba; have hna : ∀ y ∈ f11, lv.ownBlock ≠ some y := fun y hy => hna0 y (by rw [HFF.out]; simp [hy]); have hE := Fm.add_eq l f; obtain ⟨la, lc, hlv, hl1, hl2⟩ := hown.form; rw [zgl] at hlv hl1; subst hlv; obtain ⟨fpr, hrd⟩ := hown.rd'
 by_cases k1 : f.kind = 1
 ·have tk : (f.kind == 1) = true := by simp [k1]
  have HE2 := zgn (show hasA l f.L.M = false → Fm.add l f = l ++ [f.L.M] from fun h => by rw [hE, if_pos ⟨k1, h⟩]); have HE1 := zgn (show hasA l f.L.M ≠ false → Fm.add l f = Fm.adds l f.K from fun h => by rw [hE, if_neg (fun h' => h h'.2)]); clear hE k1; go_enter Tryz.func39, Tryz.ntmps39; go_wp2_with fail; refine (zdG f.L.M l _ _ _ _ _ hrd (by exact hat.below hba)).mono ?_; rintro e w1 ⟨⟨q, rfl, hq⟩, hb1⟩; have hbd := hq.bd; have HNEG := zgn hq.neg; clear hq hrd; have hB := hba.trans (hb1.mono hba.size); replace hown := hown.below hb1; replace hfr := hfr.below hb1; replace hk := hk.below hb1; replace hp := zh hp (by simp) hb1; have hz1 := hB.size; clear hb1
  by_cases hq0 : q < 0
  ·have HE := zgn (HE2.out (HNEG.out.1 hq0))
   go_wp2_with fail; refine (zcB f.L.M _ _ _ hsm hbt (by exact hat.below hB)).mono ?_; rintro e w3 ⟨us, fp3, rfl, hr3, hf3, hb3⟩; obtain ⟨a2y, c2y, f2y, a4y, c4y, f4y, a5y, c5y, f5y, a6y, c6y, f6y, rfl, -, m0y, m1y, m2y, m3y, m4y, m5y, m6y, m7y⟩ := Atm.open hr3; have hown3 := hown.below (hb3.alloc hb3.size (.cells (yNa f.L.M a2y c2y a4y c4y a5y c5y a6y c6y) 31)); have hr3' := hr3.below (zb w3 (.cells (yNa f.L.M a2y c2y a4y c4y a5y c5y a6y c6y) 31)); have hz3 := hb3.size; go_wp2_with (at_builtin; refine zz zaE rfl _ _ rfl base _ _ _ rfl hown3 ⟨w3.heap.size, 0, none⟩ 1 1 [f.L.M.cd] (yNl f.L.M a2y c2y a4y c4y a5y c5y a6y c6y) fp3 rfl rfl ?rd ?k ?cells ?na ?bytes ?len ?base ?next)
   case rd => simpa using hr3'
   case k => simp [Atm.cd_len]
   case cells => exact zq _ _ _
   case na => exact hown.away (zgo _) hf3
   case bytes => (try rw [zgl]); (try simp); omega
   case len => (try rw [zgl]); (try simp); omega
   case base => simp; omega
   case next =>
    intro v' w4 hown4 hg hv' hs4; go_wp2_with fail; go_ret; exact ⟨v', _, rfl, by rw [HE.out]; simpa using hown4, ((Fresh.app (hfr.below hb3) hfr.lt (by omega) hf3).below (zb _ _)).same hs4, Moved.after hB (Moved.after (hb3.alloc hb3.size _) ⟨hg, by simpa using hv'⟩)⟩
  ·have HE := zgn (HE1.out (fun h => hq0 (HNEG.out.2 h)))
   go_wp2_with fail
   go_loopw [0, 28] (fun ov i wr => ∃ (k : Nat) (fp : List Nat), k ≤ f.K.length ∧ i = .int .i64 k ∧ Own wr base 31 9 ov ((Fm.adds l (f.K.take k)).map Atm.cd) fp ∧ Fresh base wr fp ∧ Moved w1 (.slice la l.length lc) wr ov) (fun _ i _ => f.K.length - (intOf i).toNat)
   case atStart => exact ⟨0, fp, zgx _, rfl, hown, hfr, Moved.refl _ _⟩
   case round =>
    clear hown hfr fp; obtain ⟨k, fp, hkl, rfl, hown, hfr, hm⟩ := hrel; have hz := zgy hB.size hm.size; have hln := Fm.adds_len (f.K.take k) l; have hle := zu Fm.cd f.K k; rw [← List.map_take] at hle
    have hlk : (f.K.take k).length ≤ k := by simp; omega
    by_cases hlt : k < f.K.length
    ·have hkr := hk.same _ (hm.same (hk.lt _) hna)
     have hka := hm.away (hk.lt _) hna; obtain ⟨b, off, rfl, hbs, _⟩ := zl hk (by omega); obtain ⟨b3, e3, g3, b5, e5, g5, b6, e6, g6, b7, e7, g7, b11, e11, g11, d0, d1, d2, d3, d4, d5, d6, d7, d8, d9, d10, d11, n0, n1, n2, n3, n4, n5, n6, n7, n8, n9, hsub⟩ := Fm.at hkr hlt; have hbz : b < wr.heap.size := zge hbs hm.size; have hle2 := zu Fm.cd f.K (k + 1); rw [zC Fm.cd f.K k hlt, ← List.map_take] at hle2; go_wp2_with fail; refine (IH.out f.K[k] (Fm.adds l (f.K.take k)) _ _ _ fp base _ (HN.out _ (zgh hlt)) (by omega) (by omega) (by simp; omega) (by exact hown.below (zb _ _)) (by exact hfr.below (zb _ _)) (by exact (Fm.close n0 n1 n2 n3 n4 n5 n6 n7 n8 n9).below (zb _ _)) (fun y hy => hka y (hsub y hy))).mono ?_; rintro e w2 ⟨lv2, fp2, rfl, hown2, hfr2, hm2⟩; go_wp2_with fail; go_roundw
     case rel => exact ⟨k + 1, fp2, by omega, by go_num, by rw [Fm.adds_succ _ _ _ hlt]; exact hown2, hfr2, hm.trans (Moved.after (zb _ _) hm2)⟩
     case measure => simp [intOf]; omega
    ·have he : f.K.take k = f.K := zgq (by omega)
     rw [he] at hown; go_wp2_with fail; go_ret; exact ⟨_, fp, rfl, by rw [HE.out]; exact hown, hfr, Moved.after hB hm⟩
 ·have tk : (f.kind == 1) = false := by simp [k1]
  have HE := zgn (show Fm.add l f = Fm.adds l f.K by rw [hE, if_neg (fun h => k1 h.1)]); clear hE k1; go_enter Tryz.func39, Tryz.ntmps39; go_wp2_with fail
  go_loopw [0, 28] (fun ov i wr => ∃ (k : Nat) (fp : List Nat), k ≤ f.K.length ∧ i = .int .i64 k ∧ Own wr base 31 9 ov ((Fm.adds l (f.K.take k)).map Atm.cd) fp ∧ Fresh base wr fp ∧ Moved _ (.slice la l.length lc) wr ov) (fun _ i _ => f.K.length - (intOf i).toNat)
  case atStart => exact ⟨0, fp, zgx _, rfl, hown, hfr, Moved.refl _ _⟩
  case round =>
   clear hown hfr fp; obtain ⟨k, fp, hkl, rfl, hown, hfr, hm⟩ := hrel; have hz := zgy hba.size hm.size; have hln := Fm.adds_len (f.K.take k) l; have hle := zu Fm.cd f.K k; rw [← List.map_take] at hle
   have hlk : (f.K.take k).length ≤ k := by simp; omega
   by_cases hlt : k < f.K.length
   ·have hkr := hk.same _ (hm.same (hk.lt _) hna)
    have hka := hm.away (hk.lt _) hna; obtain ⟨b, off, rfl, hbs, _⟩ := zl hk (by omega); obtain ⟨b3, e3, g3, b5, e5, g5, b6, e6, g6, b7, e7, g7, b11, e11, g11, d0, d1, d2, d3, d4, d5, d6, d7, d8, d9, d10, d11, n0, n1, n2, n3, n4, n5, n6, n7, n8, n9, hsub⟩ := Fm.at hkr hlt; have hbz : b < wr.heap.size := zge hbs hm.size; have hle2 := zu Fm.cd f.K (k + 1); rw [zC Fm.cd f.K k hlt, ← List.map_take] at hle2; go_wp2_with fail; refine (IH.out f.K[k] (Fm.adds l (f.K.take k)) _ _ _ fp base _ (HN.out _ (zgh hlt)) (by omega) (by omega) (by simp; omega) (by exact hown.below (zb _ _)) (by exact hfr.below (zb _ _)) (by exact (Fm.close n0 n1 n2 n3 n4 n5 n6 n7 n8 n9).below (zb _ _)) (fun y hy => hka y (hsub y hy))).mono ?_; rintro e w2 ⟨lv2, fp2, rfl, hown2, hfr2, hm2⟩; go_wp2_with fail; go_roundw
    case rel => exact ⟨k + 1, fp2, by omega, by go_num, by rw [Fm.adds_succ _ _ _ hlt]; exact hown2, hfr2, hm.trans (Moved.after (zb _ _) hm2)⟩
    case measure => simp [intOf]; omega
   ·have he : f.K.take k = f.K := zgq (by omega)
    rw [he] at hown; go_wp2_with fail; go_ret; exact ⟨_, fp, rfl, by rw [HE.out]; exact hown, hfr, Moved.after hba hm⟩
def zaC (fs : List Fm) : Bool := decide (fs.length ≤ 5) && (fs.all Fm.okF && decide ((Fm.adds [] fs).length ≤ 6))
def zab (fs : List Fm) : List Atm := if zaC fs = true then Fm.adds [] fs else []
theorem zcb {fs : List Fm} (h : zaC fs = true) : zab fs = Fm.adds [] fs := if_pos h
theorem zbA {fs : List Fm} (h : zaC fs = false) : zab fs = [] := by unfold zab; rw [h]; rfl
theorem zfx (f : Fm) (vs : List Value) (ff : List Nat) (w : World) (hbig : wtV f.cd ≤ 1048576) (hv : RdVs w f.cd vs ff) :
  Calls Tryz.prog 38 #[.agg vs.toArray] w fun e w' => e = .returned (.bool f.okF) ∧ Below w.heap.size w w' := by
 have hv0 := hv; obtain ⟨a3, c3, f3, a5, c5, f5, a6, c6, f6, a7, c7, f7, a11, c11, f11, rfl, -, m0, m1, m2, m3, m4, m5, m6, m7, m8, m9⟩ := Fm.open hv; clear hv; have hln := Fm.add_len f []; go_enter Tryz.func38, Tryz.ntmps38; go_wp2_with fail; refine (zfv f 1 _ _ _ hbig (by omega) (by omega) (by exact hv0.below (zb _ _))).mono ?_; rintro e w1 ⟨rfl, hb1⟩; obtain ⟨hx, hz1, hB⟩ := box1 (w := w) (wr := w1) (cs := (yTa f a3 c3 a5 c5 a6 c6 a7 c7 a11 c11)) (T := 36) (zm hb1 (by simp)); obtain ⟨C0, C1, C2, C3, C4, C5, C6, C7, C8, C9, C10, C11⟩ := yQ12 hx; simp only [zgd, zgb, zgc] at C0 C1 C2 C3 C4 C5 C6 C7 C8 C9 C10 C11; clear hb1 hx; have h11 : (1 : Int).toNat = 1 := rfl; rw [h11]; clear h11
 by_cases h1 : Fm.sz 1 f ≤ 10
 ·go_wp2_with fail
  refine (zcC _ f [] _ _ (.slice none 0 0) [] w1.heap.size _ (zgo _) hbig (by simp; omega) (zgo _) (Own.nil _ _ _ _) (Fresh.nil _ _) (by exact hv0.below hB) (by simp [Value.ownBlock])).mono ?_; rintro e w2 ⟨lv, fp, rfl, hown, _, hm⟩; obtain ⟨la, lc, rfl, _, _⟩ := hown.form; have hB2 := hB.trans (hm.toBelow (B := w.heap.size) (by omega) (by simp [Value.ownBlock])); rw [zgl]; clear hm hown
  have HE := zgn (show f.okF = decide (((Fm.add [] f).length : Int) ≤ 6) by unfold Fm.okF; rw [Bool.eq_iff_iff]; simp [h1]; try omega)
  go_wp2_with fail; go_ret; exact ⟨retB HE.out.symm, hB2⟩
 ·have HE := zgn (show f.okF = false by unfold Fm.okF; simp [h1])
  go_wp2_with fail; go_ret; exact ⟨retB HE.out.symm, hB⟩
theorem zdb (fs : List Fm) (v : Value) (ff : List Nat) (w : World) (hbig : fs.length + wtR (fs.map Fm.cd) ≤ 1048576) (hv : Rd w (.sl (fs.map Fm.cd)) v ff) :
  Calls Tryz.prog 54 #[v] w fun e w' => ∃ rv fp, e = .returned (.tuple #[rv, .bool (zaC fs)]) ∧ Rd w' (.sl ((zab fs).map Atm.cd)) rv fp ∧ Fresh w.heap.size w' fp ∧ Below w.heap.size w w' := by
 obtain ⟨a, cap, rfl, hc1, hc2⟩ := zg hv
 by_cases h5 : fs.length ≤ 5
 rotate_left
 ·have HO : Hid (zaC fs = false) := zgn (by unfold zaC; simp [h5])
  have HE := zgn (zbA HO.out); go_enter Tryz.func54, Tryz.ntmps54; go_wp2_with fail
  go_ret2
  exact ⟨_, [], by rw [HO.out]; rfl, by rw [HE.out]; exact zbi _ _, Fresh.nil _ _, zgz _ _⟩
 go_enter Tryz.func54, Tryz.ntmps54; go_wp2_with fail
 go_loopw [4, 12] (fun ov i wr => ∃ (k : Nat) (fp : List Nat), k ≤ fs.length ∧ i = .int .i64 k ∧ Hid ((fs.take k).all Fm.okF = true) ∧ Own wr w.heap.size 31 9 ov ((Fm.adds [] (fs.take k)).map Atm.cd) fp ∧ Fresh w.heap.size wr fp ∧ Below w.heap.size w wr) (fun _ i _ => fs.length - (intOf i).toNat)
 case atStart => exact ⟨0, [], zgx _, rfl, zgn (by simp), Own.nil _ _ _ _, Fresh.nil _ _, zgz _ _⟩
 case round =>
  obtain ⟨k, fp, hkl, rfl, hall, hown, hfr, hb⟩ := hrel; have hz := hb.size; have hln := Fm.adds_len (fs.take k) []; have hle := zu Fm.cd fs k; rw [← List.map_take] at hle
  have hlk : (fs.take k).length ≤ k := by simp; omega
  simp only [List.length_nil, Nat.zero_add] at hln
  by_cases hlt : k < fs.length
  ·obtain ⟨b, off, rfl, hbs, _⟩ := zl hv (by omega)
   obtain ⟨b3, e3, g3, b5, e5, g5, b6, e6, g6, b7, e7, g7, b11, e11, g11, d0, d1, d2, d3, d4, d5, d6, d7, d8, d9, d10, d11, n0, n1, n2, n3, n4, n5, n6, n7, n8, n9, hsub⟩ := Fm.at (hv.below hb) hlt
   have hbz : b < wr.heap.size := by omega
   have hle2 := zu Fm.cd fs (k + 1); rw [zC Fm.cd fs k hlt, ← List.map_take] at hle2; have hna : ∀ y ∈ g3 ++ (g5 ++ (g6 ++ (g7 ++ g11))), u4.ownBlock ≠ some y := fun y hy => hown.row_ne (hv.lt _ y (hsub y hy)); go_wp2_with fail; refine (zfx fs[k] _ _ _ (by omega) (by exact (Fm.close n0 n1 n2 n3 n4 n5 n6 n7 n8 n9).below (zb _ _))).mono ?_; rintro e w1 ⟨rfl, hb1⟩; obtain ⟨hx, hz1, hB⟩ := box1 (w := wr) (wr := w1) (cs := (yTa fs[k] b3 e3 b5 e5 b6 e6 b7 e7 b11 e11)) (T := 36) (zm hb1 (by simp)); obtain ⟨C0, C1, C2, C3, C4, C5, C6, C7, C8, C9, C10, C11⟩ := yQ12 hx; simp only [zgd, zgb, zgc] at C0 C1 C2 C3 C4 C5 C6 C7 C8 C9 C10 C11; clear hb1 hx
   cases hok : fs[k].okF
   ·have HO : Hid (zaC fs = false) := zgn (by
     have : fs.all Fm.okF = false := by rw [List.all_eq_false]; exact ⟨fs[k], zgh hlt, by simp [hok]⟩
     unfold zaC; simp [this])
    have HE := zgn (zbA HO.out); clear hok; go_wp2_with fail
    go_ret2
    exact ⟨_, [], by rw [HO.out]; rfl, by rw [HE.out]; exact zbi _ _, Fresh.nil _ _, hb.trans (hB.mono hz)⟩
   ·have HA : Hid ((fs.take (k + 1)).all Fm.okF = true) := zgn (by rw [zgf hlt, List.all_append, hall.out]; simp [hok])
    clear hok; go_wp2_with fail; refine (zcC _ fs[k] (Fm.adds [] (fs.take k)) _ _ _ fp w.heap.size _ (zgo _) (by omega) (by omega) (by omega) (by exact hown.below hB) (by exact hfr.below hB) (by exact (Fm.close n0 n1 n2 n3 n4 n5 n6 n7 n8 n9).below hB) hna).mono ?_; rintro e w2 ⟨lv2, fp2, rfl, hown2, hfr2, hm2⟩; have hB2 := (hb.trans (hB.mono hz)).trans (hm2.toBelow (B := w.heap.size) (by omega) (fun b h => (hown.block h).1)); go_wp2_with fail; go_roundw
    case rel => exact ⟨k + 1, fp2, by omega, by go_num, HA, by rw [Fm.adds_succ _ _ _ hlt]; exact hown2, hfr2, hB2⟩
    case measure => simp [intOf]; omega
  ·have he : fs.take k = fs := zgq (by omega)
   rw [he] at hown hall hln; obtain ⟨la, lc, hlv, hl1, hl2⟩ := hown.form; obtain ⟨fp', h1, h2, _⟩ := hown.fresh hfr; rw [zgl] at hlv hl1; subst hlv; clear hown hfr he
   by_cases h6 : (Fm.adds [] fs).length ≤ 6
   ·have HO : Hid (zaC fs = true) := zgn (by unfold zaC; simp only [hall.out]; simp [h5, h6])
    have HE := zgn (zcb HO.out); go_wp2_with fail
    go_ret2
    exact ⟨_, fp', by rw [HO.out]; rfl, by rw [HE.out]; exact h1, h2, hb⟩
   ·have HO : Hid (zaC fs = false) := zgn (by unfold zaC; simp [h6])
    have HE := zgn (zbA HO.out); go_wp2_with fail
    go_ret2
    exact ⟨_, [], by rw [HO.out]; rfl, by rw [HE.out]; exact zbi _ _, Fresh.nil _ _, hb⟩
end Go.Proofs.YtbfinjiledfpcaaGreat
end
