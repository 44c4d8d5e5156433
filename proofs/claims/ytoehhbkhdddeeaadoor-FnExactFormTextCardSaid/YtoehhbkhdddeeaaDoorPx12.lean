/- Parts of the proof: SameLib. -/
import Derived.Test.YtoehhbkhdddeeaaDoorPx11
section
namespace Go.Proofs.YtoehhbkhdddeeaaDoor
open Go Go.RowKit
set_option linter.unusedVariables false
set_option linter.unusedSimpArgs false
set_option maxRecDepth 100000
set_option maxHeartbeats 16000000
mutual
def eqC : CD → CD → Bool
 | .int a, .int b => decide (a = b)
 | .str a, .str b => decide (a = b)
 | .bool a, .bool b => decide (a = b)
 | .sl a, .sl b => eqR a b
 | _, _ => false
def eqR : List (List CD) → List (List CD) → Bool
 | [], [] => true
 | a :: l, b :: l2 => eqV a b && eqR l l2
 | _, _ => false
def eqV : List CD → List CD → Bool
 | [], [] => true
 | a :: l, b :: l2 => eqC a b && eqV l l2
 | _, _ => false
end
mutual
theorem eqC_iff : ∀ (a b : CD), eqC a b = true ↔ a = b
 | .int a, b => by cases b <;> simp [eqC]
 | .str a, b => by cases b <;> simp [eqC]
 | .bool a, b => by cases b <;> simp [eqC]
 | .sl a, b => by cases b <;> simp [eqC, za6 a]
theorem za6 : ∀ (a b : List (List CD)), eqR a b = true ↔ a = b
 | [], b => by cases b <;> simp [eqR]
 | a :: l, b => by cases b <;> simp [eqR, zQ a, za6 l]
theorem zQ : ∀ (a b : List CD), eqV a b = true ↔ a = b
 | [], b => by cases b <;> simp [eqV]
 | a :: l, b => by cases b <;> simp [eqV, eqC_iff a, zQ l]
end
theorem zbM (a : List CD) : eqV a a = true := (zQ _ _).2 rfl
theorem eqV_no {a b : List CD} (h : a ≠ b) : eqV a b = false := by rw [Bool.eq_false_iff]; intro h'; exact h ((zQ _ _).1 h')
theorem eqR_no {a b : List (List CD)} (h : a ≠ b) : eqR a b = false := by rw [Bool.eq_false_iff]; intro h'; exact h ((za6 _ _).1 h')
theorem eqV_ne {a b : List CD} (h : eqV a b = false) : a ≠ b := by rintro rfl; rw [zbM] at h; simp at h
theorem zbz {α : Type} {cd : α → List CD} {xs ys : List α} (h : xs.length ≠ ys.length) : eqR (xs.map cd) (ys.map cd) = false := eqR_no fun e => h (by have := congrArg List.length e; simpa using this)
/-- All up to a place alike. -/
def Alike {α : Type} (cd : α → List CD) (xs ys : List α) (k : Nat) : Prop := (xs.take k).map cd = (ys.take k).map cd
theorem Alike.zero {α : Type} {cd : α → List CD} {xs ys : List α} : Alike cd xs ys 0 := by simp [Alike]
theorem Alike.succ {α : Type} {cd : α → List CD} {xs ys : List α} {k : Nat} (h : Alike cd xs ys k) (h1 : k < xs.length) (h2 : k < ys.length) (he : eqV (cd xs[k]) (cd ys[k]) = true) : Alike cd xs ys (k + 1) := by
 unfold Alike at *
 rw [zck h1, zck h2, zco, zco, h, List.map_singleton, List.map_singleton, (zQ _ _).1 he]
theorem Alike.all {α : Type} {cd : α → List CD} {xs ys : List α} {k : Nat} (h : Alike cd xs ys k) (h1 : xs.length ≤ k) (h2 : ys.length ≤ k) : eqR (xs.map cd) (ys.map cd) = true := by
 unfold Alike at h
 rw [List.take_of_length_le h1, List.take_of_length_le h2] at h
 exact (za6 _ _).2 h
theorem zaL {α : Type} {cd : α → List CD} {xs ys : List α} {k : Nat} (h1 : k < xs.length) (h2 : k < ys.length) (he : eqV (cd xs[k]) (cd ys[k]) = false) : eqR (xs.map cd) (ys.map cd) = false := eqR_no fun e => by
 have : (xs.map cd)[k]? = (ys.map cd)[k]? := by rw [e]
 simp [h1, h2] at this
 exact eqV_ne he this
theorem zat {a a' b b' : List CD} (h : a.length = a'.length) : eqV (a ++ b) (a' ++ b') = (eqV a a' && eqV b b') := by
 rw [Bool.eq_iff_iff, zcr, zQ, zQ, zQ]
 exact ⟨fun e => List.append_inj e h, fun ⟨e, e'⟩ => by rw [e, e']⟩
theorem eqV_int (a b : Int) : eqV [.int a] [.int b] = decide (a = b) := by simp [eqV, eqC]
theorem eqV_str (a b : ByteArray) : eqV [.str a] [.str b] = decide (a = b) := by simp [eqV, eqC]
theorem eqV_bool (a b : Bool) : eqV [.bool a] [.bool b] = decide (a = b) := by simp [eqV, eqC]
theorem eqV_sl (a b : List (List CD)) : eqV [.sl a] [.sl b] = eqR a b := by simp [eqV, eqC]
theorem zc {w1 w2 : World} {b j : Nat} {v : Value} (h : w1.cell? ⟨b, j, none⟩ = some v) (hb : Below w1.heap.size w1 w2) : w2.cell? ⟨b, j, none⟩ = some v := (hb.cell (p := ⟨b, j, none⟩) (World.block_lt_of_cell? w1 _ h)).trans h
theorem zaY {w : World} {α : Type} {cd : α → List CD} {xs : List α} {v : Value} {f : List Nat} (h : Rd w (.sl (xs.map cd)) v f) : xs.length ≤ 9223372036854775807 := by obtain ⟨a, c, _, h1, h2⟩ := ze h; omega
theorem int_beq (a b : Int) : (a == b) = decide (a = b) := rfl
theorem Tm.cd_mk (n : ByteArray) (ks : List Tm) : (Tm.mk n ks).cd = [.str n, .sl (ks.map Tm.cd)] := by rw [Tm.cd_eq]; rfl
mutual
theorem Tm.beq_cd : ∀ t u : Tm, t.beq u = eqV t.cd u.cd
 | .mk n ks, .mk m js => by
  rw [Tm.cd_mk, Tm.cd_mk]
  simp only [Tm.beq, eqV, eqC, Bool.and_true]
  rw [Tm.beqs_cd ks js]
theorem Tm.beqs_cd : ∀ ts us : List Tm, Tm.beqs ts us = eqR (ts.map Tm.cd) (us.map Tm.cd)
 | [], [] => by simp [Tm.beqs, eqR]
 | [], _ :: _ => by simp [Tm.beqs, eqR]
 | _ :: _, [] => by simp [Tm.beqs, eqR]
 | t :: ts, u :: us => by
  simp only [Tm.beqs, List.map_cons, eqR]
  rw [Tm.beq_cd t u, Tm.beqs_cd ts us]
end
end Go.Proofs.YtoehhbkhdddeeaaDoor
end
