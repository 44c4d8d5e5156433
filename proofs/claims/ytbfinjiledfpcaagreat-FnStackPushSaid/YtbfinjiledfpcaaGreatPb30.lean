/- Parts of the proof: FormP FormW. -/
import Derived.Test.YtbfinjiledfpcaaGreatPb15
import Derived.Test.YtbfinjiledfpcaaGreatPb7
import Derived.Test.YtbfinjiledfpcaaGreatPb16
import Derived.Test.YtbfinjiledfpcaaGreatPb11
import Derived.Test.YtbfinjiledfpcaaGreatPb20
import Derived.Test.YtbfinjiledfpcaaGreatPb21
section
namespace Go.Proofs.YtbfinjiledfpcaaGreat
open Go Go.RowKit
set_option linter.unusedVariables false
set_option linter.unusedSimpArgs false
set_option maxRecDepth 100000
set_option maxHeartbeats 16000000
def Atm.zero : Atm := ⟨0, .mk ⟨#[]⟩ [], .mk ⟨#[]⟩ [], [], [], 0, false⟩
def Fm.nk (k : Int) : Int := if k = 1 then 0 else if k = 2 then 1 else if k = 3 then 2 else if k = 4 then 2 else if k = 5 then 2 else if k = 6 then 2 else -1
theorem Fm.nk_zero {k : Int} : Fm.nk k = 0 ↔ k = 1 := by
 unfold Fm.nk
 by_cases h1 : k = 1
 ·simp [h1]
 ·rw [if_neg h1]
  repeat' split
  all_goals (constructor <;> intro h <;> omega)
def Lt.bare (l : Lt) : Bool := !l.no && eqV l.atom.cd Atm.zero.cd
def hasA (l : List Atm) (x : Atm) : Bool := l.any (fun y => eqV y.cd x.cd)
theorem eqV_comm (a b : List CD) : eqV a b = eqV b a := by rw [Bool.eq_iff_iff, zaO, zaO]; exact eq_comm
mutual
def Fm.sz : Nat → Fm → Nat
 | d, .mk kind lit kids => if d > 5 ∨ Fm.nk kind ≠ (kids.length : Int) ∨ (Fm.nk kind = 0 ∧ lit.atom.okB = false) ∨ (Fm.nk kind ≠ 0 ∧ lit.bare = false) then 11 else 1 + Fm.szs (d + 1) kids
def Fm.szs : Nat → List Fm → Nat
 | _, [] => 0
 | d, k :: ks => Fm.sz d k + Fm.szs d ks
end
mutual
def Fm.add : List Atm → Fm → List Atm
 | l, .mk kind lit kids => if kind = 1 ∧ hasA l lit.atom = false then l ++ [lit.atom] else Fm.adds l kids
def Fm.adds : List Atm → List Fm → List Atm
 | l, [] => l
 | l, k :: ks => Fm.adds (Fm.add l k) ks
end
mutual
def Fm.tell : List Atm → Fm → List Atm
 | l, .mk kind lit kids => if kind = 1 then (if hasA l lit.atom = true then l else l ++ [lit.atom]) else Fm.tells l kids
def Fm.tells : List Atm → List Fm → List Atm
 | l, [] => l
 | l, k :: ks => Fm.tells (Fm.tell l k) ks
end
mutual
def Fm.shape : Nat → Fm → Bool
 | d, .mk kind lit kids => if d < 1 ∨ Fm.nk kind ≠ (kids.length : Int) then false else if kind = 1 then lit.atom.okB else Fm.shapes (d - 1) kids && lit.bare
def Fm.shapes : Nat → List Fm → Bool
 | _, [] => true
 | d, k :: ks => Fm.shape d k && Fm.shapes d ks
end
mutual
def Fm.many : Nat → Fm → Nat
 | d, .mk _ _ kids => 1 + (if 0 < d then Fm.manys (d - 1) kids else 0)
def Fm.manys : Nat → List Fm → Nat
 | _, [] => 0
 | d, k :: ks => Fm.many d k + Fm.manys d ks
end
theorem Fm.sz_eq (d : Nat) (f : Fm) : Fm.sz d f = if d > 5 ∨ Fm.nk f.kind ≠ (f.kids.length : Int) ∨ (Fm.nk f.kind = 0 ∧ f.lit.atom.okB = false) ∨ (Fm.nk f.kind ≠ 0 ∧ f.lit.bare = false) then 11 else 1 + Fm.szs (d + 1) f.kids := by cases f; simp only [Fm.sz, Fm.kind, Fm.lit, Fm.kids]; rfl
theorem Fm.add_eq (l : List Atm) (f : Fm) : Fm.add l f = if f.kind = 1 ∧ hasA l f.lit.atom = false then l ++ [f.lit.atom] else Fm.adds l f.kids := by cases f; simp only [Fm.add, Fm.kind, Fm.lit, Fm.kids]; rfl
theorem Fm.tell_eq (l : List Atm) (f : Fm) : Fm.tell l f = if f.kind = 1 then (if hasA l f.lit.atom = true then l else l ++ [f.lit.atom]) else Fm.tells l f.kids := by cases f; simp only [Fm.tell, Fm.kind, Fm.lit, Fm.kids]; rfl
theorem Fm.shape_eq (d : Nat) (f : Fm) : Fm.shape d f = if d < 1 ∨ Fm.nk f.kind ≠ (f.kids.length : Int) then false else if f.kind = 1 then f.lit.atom.okB else Fm.shapes (d - 1) f.kids && f.lit.bare := by cases f; simp only [Fm.shape, Fm.kind, Fm.lit, Fm.kids]; rfl
theorem Fm.many_eq (d : Nat) (f : Fm) : Fm.many d f = 1 + (if 0 < d then Fm.manys (d - 1) f.kids else 0) := by cases f; simp only [Fm.many, Fm.kids]
theorem Fm.szs_append (d : Nat) : ∀ (a b : List Fm), Fm.szs d (a ++ b) = Fm.szs d a + Fm.szs d b
 | [], b => by simp [Fm.szs]
 | x :: a, b => by simp only [List.cons_append, Fm.szs, Fm.szs_append d a b]; omega
theorem Fm.manys_append (d : Nat) : ∀ (a b : List Fm), Fm.manys d (a ++ b) = Fm.manys d a + Fm.manys d b
 | [], b => by simp [Fm.manys]
 | x :: a, b => by simp only [List.cons_append, Fm.manys, Fm.manys_append d a b]; omega
theorem Fm.adds_append : ∀ (a b : List Fm) (l : List Atm), Fm.adds l (a ++ b) = Fm.adds (Fm.adds l a) b
 | [], b, l => by simp [Fm.adds]
 | x :: a, b, l => by simp only [List.cons_append, Fm.adds, Fm.adds_append a b]
theorem Fm.tells_append : ∀ (a b : List Fm) (l : List Atm), Fm.tells l (a ++ b) = Fm.tells (Fm.tells l a) b
 | [], b, l => by simp [Fm.tells]
 | x :: a, b, l => by simp only [List.cons_append, Fm.tells, Fm.tells_append a b]
theorem Fm.shapes_all (d : Nat) : ∀ (a : List Fm), Fm.shapes d a = a.all (Fm.shape d)
 | [] => by simp [Fm.shapes]
 | x :: a => by simp only [Fm.shapes, List.all_cons, Fm.shapes_all d a]
theorem Fm.szs_succ (d : Nat) (ks : List Fm) (k : Nat) (h : k < ks.length) : Fm.szs d (ks.take (k + 1)) = Fm.szs d (ks.take k) + Fm.sz d ks[k] := by
 rw [zfI h, Fm.szs_append]; simp [Fm.szs]
theorem Fm.manys_succ (d : Nat) (ks : List Fm) (k : Nat) (h : k < ks.length) : Fm.manys d (ks.take (k + 1)) = Fm.manys d (ks.take k) + Fm.many d ks[k] := by
 rw [zfI h, Fm.manys_append]; simp [Fm.manys]
theorem Fm.adds_succ (l : List Atm) (ks : List Fm) (k : Nat) (h : k < ks.length) : Fm.adds l (ks.take (k + 1)) = Fm.add (Fm.adds l (ks.take k)) ks[k] := by
 rw [zfI h, Fm.adds_append]; simp [Fm.adds]
theorem Fm.tells_succ (l : List Atm) (ks : List Fm) (k : Nat) (h : k < ks.length) : Fm.tells l (ks.take (k + 1)) = Fm.tell (Fm.tells l (ks.take k)) ks[k] := by
 rw [zfI h, Fm.tells_append]; simp [Fm.tells]
theorem Fm.wt_eq (f : Fm) : wtV f.cd = wtV f.lit.cd + (f.kids.length + wtR (f.kids.map Fm.cd)) := by
 rw [Fm.cd_eq]; simp only [zK, zaV, zaq, zfO]; omega
mutual
theorem Fm.sz_le : ∀ (f : Fm) (d : Nat), Fm.sz d f ≤ 11 * (1 + wtV f.cd)
 | .mk kind lit kids, d => by
  have h := Fm.szs_le kids (d + 1)
  have h2 := Fm.wt_eq (.mk kind lit kids)
  simp only [Fm.kids, Fm.lit] at h2
  simp only [Fm.sz]
  split <;> omega
theorem Fm.szs_le : ∀ (ks : List Fm) (d : Nat), Fm.szs d ks ≤ 11 * (ks.length + wtR (ks.map Fm.cd))
 | [], d => by simp [Fm.szs]
 | k :: ks, d => by
  have h1 := Fm.sz_le k d
  have h2 := Fm.szs_le ks d
  simp only [Fm.szs, List.length_cons, List.map_cons, zaf]; omega
end
mutual
theorem Fm.many_le : ∀ (f : Fm) (d : Nat), Fm.many d f ≤ 1 + wtV f.cd
 | .mk kind lit kids, d => by
  have h := Fm.manys_le kids (d - 1)
  have h2 := Fm.wt_eq (.mk kind lit kids)
  simp only [Fm.kids, Fm.lit] at h2
  simp only [Fm.many]
  split <;> omega
theorem Fm.manys_le : ∀ (ks : List Fm) (d : Nat), Fm.manys d ks ≤ ks.length + wtR (ks.map Fm.cd)
 | [], d => by simp [Fm.manys]
 | k :: ks, d => by
  have h1 := Fm.many_le k d
  have h2 := Fm.manys_le ks d
  simp only [Fm.manys, List.length_cons, List.map_cons, zaf]; omega
end
mutual
theorem Fm.add_len : ∀ (f : Fm) (l : List Atm), (Fm.add l f).length ≤ l.length + (1 + wtV f.cd)
 | .mk kind lit kids, l => by
  have h := Fm.adds_len kids l
  have h2 := Fm.wt_eq (.mk kind lit kids)
  simp only [Fm.kids, Fm.lit] at h2
  simp only [Fm.add]
  split
  ·simp only [zfL, List.length_cons, List.length_nil]; omega
  ·omega
theorem Fm.adds_len : ∀ (ks : List Fm) (l : List Atm), (Fm.adds l ks).length ≤ l.length + (ks.length + wtR (ks.map Fm.cd))
 | [], l => by simp [Fm.adds]
 | k :: ks, l => by
  have h1 := Fm.add_len k l
  have h2 := Fm.adds_len ks (Fm.add l k)
  simp only [Fm.adds, List.length_cons, List.map_cons, zaf]; omega
end
mutual
theorem Fm.tell_len : ∀ (f : Fm) (l : List Atm), (Fm.tell l f).length ≤ l.length + (1 + wtV f.cd)
 | .mk kind lit kids, l => by
  have h := Fm.tells_len kids l
  have h2 := Fm.wt_eq (.mk kind lit kids)
  simp only [Fm.kids, Fm.lit] at h2
  simp only [Fm.tell]
  split
  ·split
   ·omega
   ·simp only [zfL, List.length_cons, List.length_nil]; omega
  ·omega
theorem Fm.tells_len : ∀ (ks : List Fm) (l : List Atm), (Fm.tells l ks).length ≤ l.length + (ks.length + wtR (ks.map Fm.cd))
 | [], l => by simp [Fm.tells]
 | k :: ks, l => by
  have h1 := Fm.tell_len k l
  have h2 := Fm.tells_len ks (Fm.tell l k)
  simp only [Fm.tells, List.length_cons, List.map_cons, zaf]; omega
end
mutual
theorem Fm.sz_many : ∀ (f : Fm) (d : Nat), d ≤ 5 → (Fm.shape d f = true → Fm.sz (6 - d) f = Fm.many d f) ∧ (Fm.shape d f = false → 11 ≤ Fm.sz (6 - d) f)
 | .mk kind lit kids, d, hd => by
  simp only [Fm.shape, Fm.sz, Fm.many]
  by_cases h0 : d < 1
  ·rw [if_pos (.inl h0), if_pos (by omega)]
   exact ⟨fun h => absurd h (by simp), fun _ => Nat.le_refl _⟩
  by_cases h1 : Fm.nk kind = (kids.length : Int)
  ·rw [if_neg (by simp [h0, h1])]
   by_cases h2 : kind = 1
   ·have h3 : Fm.nk kind = 0 := Fm.nk_zero.2 h2
    have h4 : kids = [] := List.eq_nil_of_length_eq_zero (by omega)
    subst h4
    rw [if_pos h2]
    cases h5 : lit.atom.okB
    ·rw [if_pos (.inr (.inr (.inl ⟨h3, rfl⟩)))]
     exact ⟨fun h => absurd h (by simp), fun _ => Nat.le_refl _⟩
    ·rw [if_neg (by simp [h3]; omega)]
     refine ⟨fun _ => by simp [Fm.szs, Fm.manys], fun h => absurd h (by simp)⟩
   ·have h3 : Fm.nk kind ≠ 0 := fun h => h2 (Fm.nk_zero.1 h)
    rw [if_neg h2]
    cases h5 : lit.bare
    ·rw [if_pos (.inr (.inr (.inr ⟨h3, rfl⟩)))]
     exact ⟨fun h => absurd h (by simp), fun _ => Nat.le_refl _⟩
    ·rw [if_neg (by
      rintro (h | h | h | h)
      ·omega
      ·exact h h1
      ·exact h3 h.1
      ·exact absurd h.2 (by simp)), if_pos (by omega), Bool.and_true]
     have ih := Fm.szs_manys kids (d - 1) (by omega)
     have e : 6 - (d - 1) = 6 - d + 1 := by omega
     rw [e] at ih
     exact ⟨fun h => by rw [ih.1 h], fun h => by have := ih.2 h; omega⟩
  ·rw [if_pos (.inr h1), if_pos (.inr (.inl h1))]
   exact ⟨fun h => absurd h (by simp), fun _ => Nat.le_refl _⟩
theorem Fm.szs_manys : ∀ (ks : List Fm) (d : Nat), d ≤ 5 → (Fm.shapes d ks = true → Fm.szs (6 - d) ks = Fm.manys d ks) ∧ (Fm.shapes d ks = false → 11 ≤ Fm.szs (6 - d) ks)
 | [], d, hd => by simp [Fm.shapes, Fm.szs, Fm.manys]
 | k :: ks, d, hd => by
  have h1 := Fm.sz_many k d hd
  have h2 := Fm.szs_manys ks d hd
  simp only [Fm.shapes, Fm.szs, Fm.manys]
  cases hk : Fm.shape d k
  ·refine ⟨fun h => absurd h (by simp), fun _ => by have := h1.2 hk; omega⟩
  ·rw [Bool.true_and]
   exact ⟨fun h => by rw [h1.1 hk, h2.1 h], fun h => by have := h2.2 h; omega⟩
end
mutual
theorem Fm.add_tell : ∀ (f : Fm) (d : Nat) (l : List Atm), Fm.shape d f = true → Fm.add l f = Fm.tell l f
 | .mk kind lit kids, d, l => by
  simp only [Fm.shape, Fm.add, Fm.tell]
  intro h
  split at h
  ·simp at h
  ·rename_i hn
   by_cases h2 : kind = 1
   ·have h3 : Fm.nk kind = 0 := Fm.nk_zero.2 h2
    have h4 : kids = [] := List.eq_nil_of_length_eq_zero (by omega)
    subst h4
    rw [if_pos h2]
    cases h5 : hasA l lit.atom <;> simp [h2, Fm.adds]
   ·rw [if_neg h2] at h
    rw [if_neg h2, if_neg (by simp [h2])]
    simp only [zfP] at h
    exact Fm.adds_tells kids (d - 1) l h.1
theorem Fm.adds_tells : ∀ (ks : List Fm) (d : Nat) (l : List Atm), Fm.shapes d ks = true → Fm.adds l ks = Fm.tells l ks
 | [], d, l => by simp [Fm.adds, Fm.tells]
 | k :: ks, d, l => by
  simp only [Fm.shapes, zfP, Fm.adds, Fm.tells]
  intro h
  rw [Fm.add_tell k d l h.1, Fm.adds_tells ks d _ h.2]
end
def Fm.okF (f : Fm) : Bool := decide (Fm.sz 1 f ≤ 10) && decide ((Fm.add [] f).length ≤ 6)
def Fm.rightF (f : Fm) : Bool := (Fm.shape 5 f && decide (Fm.many 5 f ≤ 10)) && decide ((Fm.tell [] f).length ≤ 6)
theorem Fm.okF_right (f : Fm) : f.okF = f.rightF := by
 have h := Fm.sz_many f 5 (Nat.le_refl _)
 unfold Fm.okF Fm.rightF
 cases hs : Fm.shape 5 f
 ·have h1 := h.2 hs
  rw [show (6 - 5 : Nat) = 1 from rfl] at h1
  have h2 : ¬ Fm.sz 1 f ≤ 10 := by omega
  simp [h2]
 ·have h1 := h.1 hs
  rw [Fm.add_tell f 5 [] hs, Bool.true_and]
  rw [show (6 - 5 : Nat) = 1 from rfl] at h1
  rw [h1]
/-- The place of the first of which p is so, or -1. -/
def FirstOf {α : Type} (p : α → Bool) (l : List α) (n : Int) : Prop := (n = -1 ∧ l.all (fun t => !p t) = true) ∨ ∃ (k : Nat) (h : k < l.length), n = k ∧ p l[k] = true ∧ (l.take k).all (fun t => !p t) = true
theorem FirstOf.succ {α : Type} {p : α → Bool} {l : List α} {k : Nat} (hk : k < l.length) (h : (l.take k).all (fun t => !p t) = true) (h' : p l[k] = false) : (l.take (k + 1)).all (fun t => !p t) = true := by
 rw [zfI hk, List.all_append, h]; simp [h']
theorem FirstOf.bd {α : Type} {p : α → Bool} {l : List α} {n : Int} (h : FirstOf p l n) : -1 ≤ n ∧ n < l.length := by
 rcases h with ⟨rfl, _⟩ | ⟨k, hk, rfl, _⟩ <;> constructor <;> omega
theorem FirstOf.neg {x : Atm} {l : List Atm} {n : Int} (h : FirstOf (fun y => eqV y.cd x.cd) l n) : n < 0 ↔ hasA l x = false := by
 rcases h with ⟨rfl, h⟩ | ⟨k, hk, rfl, h, _⟩
 ·refine ⟨fun _ => ?_, fun _ => by omega⟩
  unfold hasA; rw [List.any_eq_false]
  intro y hy; rw [List.all_eq_true] at h; simpa using h y hy
 ·refine ⟨fun h => by omega, fun h' => ?_⟩
  unfold hasA at h'; rw [List.any_eq_false] at h'
  exact absurd h (h' l[k] (zfK hk))
theorem Atm.zero_rd (w : World) : RdVs w Atm.zero.cd [.int .i64 0, .string ⟨#[]⟩, .slice none 0 0, .string ⟨#[]⟩, .slice none 0 0, .slice none 0 0, .slice none 0 0, .int .i64 0, .bool false] [] :=
 Atm.close (w := w) (x := Atm.zero) (a2 := none) (c2 := 0) (f2 := []) (a4 := none) (c4 := 0) (f4 := []) (a5 := none) (c5 := 0) (f5 := []) (a6 := none) (c6 := 0) (f6 := []) (by simp [I64, Atm.zero]) (Nat.zero_le _) (zbg w Tm.cd) (Nat.zero_le _) (zbg w Tm.cd) (zbg w Tm.cd) (zbg w zD) (by simp [I64, Atm.zero])
theorem zbm (k : Int) (w : World) : Calls Tryz.prog 112 #[.int .i64 k] w fun e w' => e = .returned (.int .i64 (Fm.nk k)) ∧ w = w' := by
 by_cases h1 : k = 1
 ·subst h1
  go_enter Tryz.func112, Tryz.ntmps112
  go_wp2_with fail
  go_ret
  exact ⟨rfl, rfl⟩
 by_cases h2 : k = 2
 ·subst h2
  go_enter Tryz.func112, Tryz.ntmps112
  go_wp2_with fail
  go_ret
  exact ⟨rfl, rfl⟩
 by_cases h3 : k = 3
 ·subst h3
  go_enter Tryz.func112, Tryz.ntmps112
  go_wp2_with fail
  go_ret
  exact ⟨rfl, rfl⟩
 by_cases h4 : k = 4
 ·subst h4
  go_enter Tryz.func112, Tryz.ntmps112
  go_wp2_with fail
  go_ret
  exact ⟨rfl, rfl⟩
 by_cases h5 : k = 5
 ·subst h5
  go_enter Tryz.func112, Tryz.ntmps112
  go_wp2_with fail
  go_ret
  exact ⟨rfl, rfl⟩
 by_cases h6 : k = 6
 ·subst h6
  go_enter Tryz.func112, Tryz.ntmps112
  go_wp2_with fail
  go_ret
  exact ⟨rfl, rfl⟩
 have HN := Lib.hid (show Fm.nk k = -1 by unfold Fm.nk; rw [if_neg h1, if_neg h2, if_neg h3, if_neg h4, if_neg h5, if_neg h6])
 have t1 : (k == 1) = false := by simp [h1]
 have t2 : (k == 2) = false := by simp [h2]
 have t3 : (k == 3) = false := by simp [h3]
 have t4 : (k == 4) = false := by simp [h4]
 have t5 : (k == 5) = false := by simp [h5]
 have t6 : (k == 6) = false := by simp [h6]
 clear h1 h2 h3 h4 h5 h6
 go_enter Tryz.func112, Tryz.ntmps112
 go_wp2_with fail
 go_ret
 exact ⟨retI HN.out.symm, rfl⟩
theorem zep (x : Lt) (vs : List Value) (f : List Nat) (w : World) (hv : RdVs w x.cd vs f) : Calls Tryz.prog 113 #[.agg vs.toArray] w fun e w' => e = .returned (.bool x.bare) ∧ Below w.heap.size w w' := by
 obtain ⟨a2, c2, f2, a4, c4, f4, a5, c5, f5, a6, c6, f6, rfl, _, m0, m1, m2, m3, m4, m5, m6, m7⟩ := Lt.open hv
 have hat := Atm.close m0 m1 m2 m3 m4 m5 m6 m7
 cases hno : x.no
 ·have HB := Lib.hid (show x.bare = eqV x.atom.cd Atm.zero.cd by unfold Lt.bare; rw [hno]; simp)
  go_enter Tryz.func113, Tryz.ntmps113
  go_wp2_with fail
  refine (zcC x.atom Atm.zero _ _ _ _ _ (by exact hat.below (zd _ _)) (by exact Atm.zero_rd _)).mono ?_
  rintro e w1 ⟨rfl, hb⟩
  go_wp2_with fail
  go_ret
  exact ⟨retB HB.out.symm, (zd _ _).trans (hb.mono (by simp))⟩
 ·have HB := Lib.hid (show x.bare = false by unfold Lt.bare; rw [hno]; simp)
  go_enter Tryz.func113, Tryz.ntmps113
  go_wp2_with fail
  go_ret
  exact ⟨retB HB.out.symm, zd _ _⟩
theorem zfe (n : Nat) : ∀ (f : Fm) (deep : Int) (vs : List Value) (ff : List Nat) (w : World), ndV f.cd ≤ n → wtV f.cd ≤ 1048576 → 0 ≤ deep → deep ≤ 6 → RdVs w f.cd vs ff →
  Calls Tryz.prog 79 #[.agg vs.toArray, .int .i64 deep] w fun e w' => e = .returned (.int .i64 ((Fm.sz deep.toNat f : Nat) : Int)) ∧ Below w.heap.size w w' := by
 induction n with
 | zero =>
  intro f deep vs ff w hn; have h : 0 < ndV f.cd := by rw [Fm.cd_eq]; simp [ndV, ndC]; try omega
  omega
 | succ n ih =>
 intro f deep vs ff w hn hbig hd0 hd6 hv
 have HN : Hid (∀ k ∈ f.kids, ndV k.cd ≤ n) := fun k hk => by have := Fm.kid_nd hk; omega
 have IH := Lib.hid ih
 clear ih
 obtain ⟨a3, c3, f3, a5, c5, f5, a6, c6, f6, a7, c7, f7, a11, c11, f11, rfl, -, m0, m1, m2, m3, m4, m5, m6, m7, m8, m9⟩ := Fm.open hv
 clear hv
 have hat := Atm.close (x := f.lit.atom) m1 m2 m3 m4 m5 m6 m7 m8
 have hli := Lt.close (x := f.lit) m1 m2 m3 m4 m5 m6 m7 m8
 have hw := Fm.wt_eq f
 have hE := Fm.sz_eq deep.toNat f
 by_cases hd : 5 < deep
 ·rw [if_pos (.inl (by omega))] at hE
  have HE := Lib.hid hE
  clear hE
  go_enter Tryz.func79, Tryz.ntmps79
  go_wp2_with fail
  refine (zbm _ _).mono ?_
  rintro e w1 ⟨rfl, rfl⟩
  go_wp2_with fail
  go_ret
  exact ⟨retI (by rw [HE.out]; try rfl), zd _ _⟩
 by_cases hk : Fm.nk f.kind = (f.kids.length : Int)
 rotate_left
 ·rw [if_pos (.inr (.inl hk))] at hE
  have HE := Lib.hid hE
  clear hE
  have tk : (Fm.nk f.kind != (f.kids.length : Int)) = true := by simp [hk]
  clear hk
  go_enter Tryz.func79, Tryz.ntmps79
  go_wp2_with fail
  refine (zbm _ _).mono ?_
  rintro e w1 ⟨rfl, rfl⟩
  go_wp2_with fail
  go_ret
  exact ⟨retI (by rw [HE.out]; try rfl), zd _ _⟩
 have tk : (Fm.nk f.kind != (f.kids.length : Int)) = false := by simp [hk]
 have hsm := Lt.small_of (x := f.lit) (by omega)
 by_cases h0 : Fm.nk f.kind = 0
 ·have t0 : (Fm.nk f.kind == 0) = true := by simp [h0]
  have t1 : (Fm.nk f.kind != 0) = false := by simp [h0]
  have HE2 := Lib.hid (show f.lit.atom.okB = false → Fm.sz deep.toNat f = 11 from fun h => by rw [hE, if_pos (.inr (.inr (.inl ⟨h0, h⟩)))])
  have HE1 := Lib.hid (show f.lit.atom.okB = true → Fm.sz deep.toNat f = 1 + Fm.szs (deep.toNat + 1) f.kids from fun h => by
   rw [hE, if_neg]; rintro (h' | h' | h' | h')
   ·omega
   ·exact h' hk
   ·rw [h] at h'; exact absurd h'.2 (by simp)
   ·exact h'.1 h0)
  clear hE h0 hk
  go_enter Tryz.func79, Tryz.ntmps79
  go_wp2_with fail
  refine (zbm _ _).mono ?_
  rintro e w1 ⟨rfl, rfl⟩
  go_wp2_with fail
  refine (zdf f.lit.atom _ _ _ hsm (by exact hat.below (zd _ _))).mono ?_
  rintro e w1 ⟨rfl, hb1⟩
  obtain ⟨hx, hz1, hB⟩ := box1 (w := w) (wr := w1) (cs := #[.int .i64 f.kind, .int .i64 f.lit.atom.kind, .string f.lit.atom.a.name, .slice a3 f.lit.atom.a.kids.length c3, .string f.lit.atom.b.name, .slice a5 f.lit.atom.b.kids.length c5, .slice a6 f.lit.atom.nums.length c6, .slice a7 f.lit.atom.times.length c7, .int .i64 f.lit.atom.bound, .bool f.lit.atom.strict, .bool f.lit.no, .slice a11 f.kids.length c11]) (T := 36) (zq hb1 (by simp))
  have C0 := hx 0
  have C1 := hx 1
  have C2 := hx 2
  have C3 := hx 3
  have C4 := hx 4
  have C5 := hx 5
  have C6 := hx 6
  have C7 := hx 7
  have C8 := hx 8
  have C9 := hx 9
  have C10 := hx 10
  have C11 := hx 11
  simp only [zfG, zfE, zfF] at C0 C1 C2 C3 C4 C5 C6 C7 C8 C9 C10 C11
  clear hb1 hx
  cases hok : f.lit.atom.okB
  ·have HE := Lib.hid (HE2.out hok)
   clear hok
   go_wp2_with fail
   go_ret
   exact ⟨retI (by rw [HE.out]; try rfl), hB⟩
  have HE := Lib.hid (HE1.out hok)
  clear hok
  go_wp2_with fail
  go_loopw [6, 45] (fun nv i wr => ∃ k : Nat, k ≤ f.kids.length ∧ i = .int .i64 k ∧ nv = .int .i64 ((1 + Fm.szs (deep.toNat + 1) (f.kids.take k) : Nat) : Int) ∧ Below w.heap.size w wr) (fun _ i _ => f.kids.length - (intOf i).toNat)
  case atStart => exact ⟨0, Nat.zero_le _, rfl, rfl, hB⟩
  case round =>
   obtain ⟨k, hkl, rfl, rfl, hb⟩ := hrel
   have hz := hb.size
   have bd1 := Fm.szs_le (f.kids.take k) (deep.toNat + 1)
   have bd3 := zC Fm.cd f.kids k
   rw [← List.map_take] at bd3
   have bd4 : (f.kids.take k).length ≤ f.kids.length := by simp; omega
   by_cases hlt : k < f.kids.length
   ·obtain ⟨b, off, rfl, hbs, _⟩ := zr m9 (by omega)
    obtain ⟨b3, e3, g3, b5, e5, g5, b6, e6, g6, b7, e7, g7, b11, e11, g11, d0, d1, d2, d3, d4, d5, d6, d7, d8, d9, d10, d11, n0, n1, n2, n3, n4, n5, n6, n7, n8, n9, _⟩ := Fm.at (m9.below hb) hlt
    have hbz : b < wr.heap.size := by omega
    have hle := zC Fm.cd f.kids (k + 1)
    rw [zG Fm.cd f.kids k hlt] at hle
    have bd2 := Fm.sz_le f.kids[k] (deep.toNat + 1)
    have hdd : (deep + 1).toNat = deep.toNat + 1 := by omega
    have HDD := Lib.hid hdd
    clear hdd
    go_wp2_with fail
    refine (IH.out f.kids[k] (deep + 1) _ _ _ (HN.out _ (zfK hlt)) (by omega) (by omega) (by omega) (by exact (Fm.close n0 n1 n2 n3 n4 n5 n6 n7 n8 n9).below (zd _ _))).mono ?_
    rintro e w2 ⟨rfl, hb2⟩
    rw [HDD.out]
    go_wp2_with fail
    go_roundw
    case rel => exact ⟨k + 1, by omega, by go_num, by rw [Fm.szs_succ _ _ _ hlt]; go_num, (hb.alloc hz _).trans (hb2.mono (by simp; omega))⟩
    case measure => simp [intOf]; omega
   ·have he : f.kids.take k = f.kids := List.take_of_length_le (by omega)
    rw [he]
    rw [he] at bd1 bd3 bd4
    go_wp2_with fail
    go_ret
    exact ⟨retI (by rw [HE.out]; try rfl), hb⟩
 ·have t0 : (Fm.nk f.kind == 0) = false := by simp [h0]
  have t1 : (Fm.nk f.kind != 0) = true := by simp [h0]
  have HE2 := Lib.hid (show f.lit.bare = false → Fm.sz deep.toNat f = 11 from fun h => by rw [hE, if_pos (.inr (.inr (.inr ⟨h0, h⟩)))])
  have HE1 := Lib.hid (show f.lit.bare = true → Fm.sz deep.toNat f = 1 + Fm.szs (deep.toNat + 1) f.kids from fun h => by
   rw [hE, if_neg]; rintro (h' | h' | h' | h')
   ·omega
   ·exact h' hk
   ·exact h0 h'.1
   ·rw [h] at h'; exact absurd h'.2 (by simp))
  clear hE h0 hk
  go_enter Tryz.func79, Tryz.ntmps79
  go_wp2_with fail
  refine (zbm _ _).mono ?_
  rintro e w1 ⟨rfl, rfl⟩
  go_wp2_with fail
  refine (zep f.lit _ _ _ (by exact hli.below (zd _ _))).mono ?_
  rintro e w1 ⟨rfl, hb1⟩
  obtain ⟨hx, hz1, hB⟩ := box1 (w := w) (wr := w1) (cs := #[.int .i64 f.kind, .int .i64 f.lit.atom.kind, .string f.lit.atom.a.name, .slice a3 f.lit.atom.a.kids.length c3, .string f.lit.atom.b.name, .slice a5 f.lit.atom.b.kids.length c5, .slice a6 f.lit.atom.nums.length c6, .slice a7 f.lit.atom.times.length c7, .int .i64 f.lit.atom.bound, .bool f.lit.atom.strict, .bool f.lit.no, .slice a11 f.kids.length c11]) (T := 36) (zq hb1 (by simp))
  have C0 := hx 0
  have C1 := hx 1
  have C2 := hx 2
  have C3 := hx 3
  have C4 := hx 4
  have C5 := hx 5
  have C6 := hx 6
  have C7 := hx 7
  have C8 := hx 8
  have C9 := hx 9
  have C10 := hx 10
  have C11 := hx 11
  simp only [zfG, zfE, zfF] at C0 C1 C2 C3 C4 C5 C6 C7 C8 C9 C10 C11
  clear hb1 hx
  cases hok : f.lit.bare
  ·have HE := Lib.hid (HE2.out hok)
   clear hok
   go_wp2_with fail
   go_ret
   exact ⟨retI (by rw [HE.out]; try rfl), hB⟩
  have HE := Lib.hid (HE1.out hok)
  clear hok
  go_wp2_with fail
  go_loopw [6, 45] (fun nv i wr => ∃ k : Nat, k ≤ f.kids.length ∧ i = .int .i64 k ∧ nv = .int .i64 ((1 + Fm.szs (deep.toNat + 1) (f.kids.take k) : Nat) : Int) ∧ Below w.heap.size w wr) (fun _ i _ => f.kids.length - (intOf i).toNat)
  case atStart => exact ⟨0, Nat.zero_le _, rfl, rfl, hB⟩
  case round =>
   obtain ⟨k, hkl, rfl, rfl, hb⟩ := hrel
   have hz := hb.size
   have bd1 := Fm.szs_le (f.kids.take k) (deep.toNat + 1)
   have bd3 := zC Fm.cd f.kids k
   rw [← List.map_take] at bd3
   have bd4 : (f.kids.take k).length ≤ f.kids.length := by simp; omega
   by_cases hlt : k < f.kids.length
   ·obtain ⟨b, off, rfl, hbs, _⟩ := zr m9 (by omega)
    obtain ⟨b3, e3, g3, b5, e5, g5, b6, e6, g6, b7, e7, g7, b11, e11, g11, d0, d1, d2, d3, d4, d5, d6, d7, d8, d9, d10, d11, n0, n1, n2, n3, n4, n5, n6, n7, n8, n9, _⟩ := Fm.at (m9.below hb) hlt
    have hbz : b < wr.heap.size := by omega
    have hle := zC Fm.cd f.kids (k + 1)
    rw [zG Fm.cd f.kids k hlt] at hle
    have bd2 := Fm.sz_le f.kids[k] (deep.toNat + 1)
    have hdd : (deep + 1).toNat = deep.toNat + 1 := by omega
    have HDD := Lib.hid hdd
    clear hdd
    go_wp2_with fail
    refine (IH.out f.kids[k] (deep + 1) _ _ _ (HN.out _ (zfK hlt)) (by omega) (by omega) (by omega) (by exact (Fm.close n0 n1 n2 n3 n4 n5 n6 n7 n8 n9).below (zd _ _))).mono ?_
    rintro e w2 ⟨rfl, hb2⟩
    rw [HDD.out]
    go_wp2_with fail
    go_roundw
    case rel => exact ⟨k + 1, by omega, by go_num, by rw [Fm.szs_succ _ _ _ hlt]; go_num, (hb.alloc hz _).trans (hb2.mono (by simp; omega))⟩
    case measure => simp [intOf]; omega
   ·have he : f.kids.take k = f.kids := List.take_of_length_le (by omega)
    rw [he]
    rw [he] at bd1 bd3 bd4
    go_wp2_with fail
    go_ret
    exact ⟨retI (by rw [HE.out]; try rfl), hb⟩
theorem zff (f : Fm) (deep : Int) (vs : List Value) (ff : List Nat) (w : World) (hbig : wtV f.cd ≤ 1048576) (h0 : 0 ≤ deep) (h6 : deep ≤ 6) (hv : RdVs w f.cd vs ff) :
  Calls Tryz.prog 79 #[.agg vs.toArray, .int .i64 deep] w fun e w' => e = .returned (.int .i64 ((Fm.sz deep.toNat f : Nat) : Int)) ∧ Below w.heap.size w w' := zfe _ f deep vs ff w (Nat.le_refl _) hbig h0 h6 hv
end Go.Proofs.YtbfinjiledfpcaaGreat
end
