/- Parts of the proof: Text. -/
import Derived.Lib.Join
import Derived.Test.YtoehhbkhdddeeaaDoorPx3
section
namespace Go.Proofs.YtoehhbkhdddeeaaDoor
open Go Go.RowKit
set_option linter.unusedVariables false
set_option linter.unusedSimpArgs false
set_option maxRecDepth 100000
set_option maxHeartbeats 16000000
namespace Tm
def zJ : List (List UInt8) → List UInt8
 | [] => []
 | x :: xs => 40 :: (x ++ Lib.joinTail [44] xs)
def shut (n : Nat) : List UInt8 := if n = 0 then [] else [41]
def bs : Tm → List UInt8
 | .mk n ks => n.data.toList ++ (zJ (ks.map bs) ++ shut ks.length)
def text (t : Tm) : ByteArray := ⟨t.bs.toArray⟩
theorem bs_eq (t : Tm) : t.bs = t.name.data.toList ++ (zJ (t.kids.map bs) ++ shut t.kids.length) := by cases t; rw [bs]; rfl
theorem zbw (xs : List (List UInt8)) (y : List UInt8) : zJ (xs ++ [y]) = zJ xs ++ (if xs.length = 0 then 40 else 44) :: y := by
 cases xs with
 | nil => simp [zJ, Lib.joinTail]
 | cons x xs => simp [zJ, Lib.joinTail]
theorem zap : ∀ (xs : List (List UInt8)), (zJ xs).length = (xs.map (·.length + 1)).sum
 | [] => rfl
 | x :: xs => by
  have h : ∀ l : List (List UInt8), (Lib.joinTail [44] l).length = (l.map (·.length + 1)).sum := by
   intro l
   induction l with
   | nil => rfl
   | cons a l ih => simp [Lib.joinTail] at ih ⊢; omega
  simp [zJ, h]; omega
theorem nameB_size {n : ByteArray} (h : zP n = true) : n.size ≤ 2 := by
 simp only [zP, zcr, decide_eq_true_eq] at h; omega
mutual
theorem bs_len : ∀ (t : Tm) (d : Int), shape t d = true → (bs t).length + 1 ≤ 4 * size t
 | .mk n ks, d, h => by
  simp only [shape, zcr, decide_eq_true_eq] at h
  have h1 := bss_len ks (d - 1) h.2
  have h2 := nameB_size h.1.1.2
  have h3 : (shut ks.length).length ≤ 1 := by unfold shut; split <;> simp
  have h4 : n.data.toList.length = n.size := by rw [Array.length_toList]; rfl
  rw [bs_eq]
  simp only [name, kids, zcn, size]
  omega
theorem bss_len : ∀ (ts : List Tm) (d : Int), shapes ts d = true → (zJ (ts.map bs)).length ≤ 4 * sizes ts
 | [], d, _ => by simp [zJ]
 | t :: ts, d, h => by
  simp only [shapes, zcr] at h
  have h1 := bs_len t d h.1
  have h2 := bss_len ts d h.2
  rw [zap] at h2 ⊢
  simp only [List.map_cons, List.sum_cons, sizes] at h2 ⊢
  omega
end
theorem text_size (t : Tm) : t.text.size = t.bs.length := by simp [text, ByteArray.size]
theorem wf_text {t : Tm} (h : wf t = true) : t.text.size ≤ 48 := by
 simp only [wf, zcr, decide_eq_true_eq] at h
 have := bs_len t 4 h.1
 rw [text_size]; omega
def sign (k : Nat) : ByteArray := if k = 0 then ⟨#[40]⟩ else ⟨#[44]⟩
/-- What the reference has written behind k parts. -/
def upto (t : Tm) (k : Nat) : ByteArray := ⟨(t.name.data.toList ++ zJ ((t.kids.take k).map bs)).toArray⟩
theorem bytes_eq {a b : ByteArray} (h : a.data.toList = b.data.toList) : a = b := by
 cases a; cases b; simp only at h; congr 1; exact Array.toList_inj.1 h
theorem upto_zero (t : Tm) : t.upto 0 = t.name := bytes_eq (by simp [upto, zJ])
theorem upto_succ (t : Tm) (k : Nat) (h : k < t.kids.length) : t.upto (k + 1) = (t.upto k ++ sign k) ++ (t.kids[k]).text := by
 refine bytes_eq ?_
 have e : (t.kids.take (k + 1)).map bs = (t.kids.take k).map bs ++ [bs t.kids[k]] := by
  rw [zck h, zco]; rfl
 have e2 : ((t.kids.take k).map bs).length = k := by rw [zcq, List.length_take]; omega
 simp only [upto, e, zbw, e2, text, sign]
 by_cases hk : k = 0 <;> simp [hk, ByteArray.data_append]
theorem upto_all (t : Tm) (h : 0 < t.kids.length) : t.upto t.kids.length ++ ⟨#[41]⟩ = t.text := by
 refine bytes_eq ?_
 rw [text, bs_eq]
 simp [upto, shut, show t.kids.length ≠ 0 by omega, ByteArray.data_append]
theorem text_none (t : Tm) (h : t.kids.length = 0) : t.text = t.name := by
 refine bytes_eq ?_
 have h' := List.length_eq_zero_iff.1 h
 rw [text, bs_eq]
 simp [h', zJ, shut]
theorem upto_size (t : Tm) (k : Nat) (d : Int) (h : shape t d = true) : (t.upto k).size ≤ 4 * t.size := by
 have h1 : (zJ ((t.kids.take k).map bs)).length ≤ (zJ (t.kids.map bs)).length := by
  rw [zap, zap]
  have e : t.kids.map bs = (t.kids.take k).map bs ++ (t.kids.drop k).map bs := by rw [← zco, List.take_append_drop]
  rw [e, zco, List.sum_append]
  omega
 have h2 := bs_len t d h
 rw [bs_eq] at h2
 simp only [upto, ByteArray.size, List.size_toArray, zcn] at h2 ⊢
 omega
/-- impl's join. -/
theorem text_join (t : Tm) (h : 0 < t.kids.length) : ((t.name ++ ⟨#[40]⟩) ++ ⟨(Lib.join ((t.kids.map text).map (·.data.toList)) [44]).toArray⟩) ++ ⟨#[41]⟩ = t.text := by
 refine bytes_eq ?_
 rw [text, bs_eq]
 obtain ⟨x, xs, hx⟩ : ∃ x xs, t.kids = x :: xs := by cases hk : t.kids with | nil => rw [hk] at h; simp at h | cons x xs => exact ⟨x, xs, rfl⟩
 have e : (t.kids.map text).map (·.data.toList) = t.kids.map bs := by simp [text, Function.comp_def]
 rw [e, hx]
 simp [Lib.join_cons, zJ, shut, ByteArray.data_append]
theorem join_len (t : Tm) (d : Int) (h : shape t d = true) : (Lib.join ((t.kids.map text).map (·.data.toList)) [44]).length ≤ 4 * t.size := by
 have h2 := bs_len t d h
 rw [bs_eq] at h2
 have e : (t.kids.map text).map (·.data.toList) = t.kids.map bs := by simp [text, Function.comp_def]
 rw [e]
 cases hk : t.kids with
 | nil => simp [Lib.join_nil]
 | cons x xs =>
  rw [hk] at h2
  simp only [List.map_cons, zJ, zcn, List.length_cons] at h2
  rw [List.map_cons, Lib.join_cons, zcn]
  omega
end Tm
end Go.Proofs.YtoehhbkhdddeeaaDoor
end
