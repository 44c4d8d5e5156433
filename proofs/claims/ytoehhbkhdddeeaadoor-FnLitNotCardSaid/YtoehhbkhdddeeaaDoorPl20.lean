/- Parts of the proof: Text. -/
import Derived.Lib.Join
import Derived.Test.YtoehhbkhdddeeaaDoorPl3
section
namespace Go.Proofs.YtoehhbkhdddeeaaDoor
open Go Go.RowKit
set_option linter.unusedVariables false
set_option linter.unusedSimpArgs false
set_option maxRecDepth 100000
set_option maxHeartbeats 16000000
namespace Tm
def zW : List (List UInt8) → List UInt8
 | [] => []
 | x :: xs => 40 :: (x ++ Lib.joinTail [44] xs)
def shut (n : Nat) : List UInt8 := if n = 0 then [] else [41]
def bs : Tm → List UInt8
 | .mk n ks => n.data.toList ++ (zW (ks.map bs) ++ shut ks.length)
def text (t : Tm) : ByteArray := ⟨t.bs.toArray⟩
theorem zbY (t : Tm) : t.bs = t.name.data.toList ++ (zW (t.kids.map bs) ++ shut t.kids.length) := by cases t; rw [bs]; rfl
theorem zbG (xs : List (List UInt8)) (y : List UInt8) : zW (xs ++ [y]) = zW xs ++ (if xs.length = 0 then 40 else 44) :: y := by
 cases xs with
 | nil => simp [zW, Lib.joinTail]
 | cons x xs => simp [zW, Lib.joinTail]
theorem zaF : ∀ (xs : List (List UInt8)), (zW xs).length = (xs.map (·.length + 1)).sum
 | [] => rfl
 | x :: xs => by
  have h : ∀ l : List (List UInt8), (Lib.joinTail [44] l).length = (l.map (·.length + 1)).sum := by
   intro l
   induction l with
   | nil => rfl
   | cons a l ih => simp [Lib.joinTail] at ih ⊢; omega
  simp [zW, h]; omega
theorem nameB_size {n : ByteArray} (h : zQ n = true) : n.size ≤ 2 := by
 simp only [zQ, zck, decide_eq_true_eq] at h; omega
mutual
theorem bs_len : ∀ (t : Tm) (d : Int), shape t d = true → (bs t).length + 1 ≤ 4 * size t
 | .mk n ks, d, h => by
  simp only [shape, zck, decide_eq_true_eq] at h
  have h1 := bss_len ks (d - 1) h.2
  have h2 := nameB_size h.1.1.2
  have h3 : (shut ks.length).length ≤ 1 := by unfold shut; split <;> simp
  have h4 : n.data.toList.length = n.size := by rw [Array.length_toList]; rfl
  rw [zbY]
  simp only [name, kids, zcg, size]
  omega
theorem bss_len : ∀ (ts : List Tm) (d : Int), shapes ts d = true → (zW (ts.map bs)).length ≤ 4 * sizes ts
 | [], d, _ => by simp [zW]
 | t :: ts, d, h => by
  simp only [shapes, zck] at h
  have h1 := bs_len t d h.1
  have h2 := bss_len ts d h.2
  rw [zaF] at h2 ⊢
  simp only [List.map_cons, List.sum_cons, sizes] at h2 ⊢
  omega
end
theorem text_size (t : Tm) : t.text.size = t.bs.length := by simp [text, ByteArray.size]
theorem wf_text {t : Tm} (h : wf t = true) : t.text.size ≤ 48 := by
 simp only [wf, zck, decide_eq_true_eq] at h
 have := bs_len t 4 h.1
 rw [text_size]; omega
def sign (k : Nat) : ByteArray := if k = 0 then ⟨#[40]⟩ else ⟨#[44]⟩
/-- What the reference has written behind k parts. -/
def upto (t : Tm) (k : Nat) : ByteArray := ⟨(t.name.data.toList ++ zW ((t.kids.take k).map bs)).toArray⟩
theorem zay {a b : ByteArray} (h : a.data.toList = b.data.toList) : a = b := by
 cases a; cases b; simp only at h; congr 1; exact Array.toList_inj.1 h
theorem upto_zero (t : Tm) : t.upto 0 = t.name := zay (by simp [upto, zW])
theorem upto_succ (t : Tm) (k : Nat) (h : k < t.kids.length) : t.upto (k + 1) = (t.upto k ++ sign k) ++ (t.kids[k]).text := by
 refine zay ?_
 have e : (t.kids.take (k + 1)).map bs = (t.kids.take k).map bs ++ [bs t.kids[k]] := by
  rw [zcd h, zch]; rfl
 have e2 : ((t.kids.take k).map bs).length = k := by rw [zcj, List.length_take]; omega
 simp only [upto, e, zbG, e2, text, sign]
 by_cases hk : k = 0 <;> simp [hk, ByteArray.data_append]
theorem upto_all (t : Tm) (h : 0 < t.kids.length) : t.upto t.kids.length ++ ⟨#[41]⟩ = t.text := by
 refine zay ?_
 rw [text, zbY]
 simp [upto, shut, show t.kids.length ≠ 0 by omega, ByteArray.data_append]
theorem text_none (t : Tm) (h : t.kids.length = 0) : t.text = t.name := by
 refine zay ?_
 have h' := List.length_eq_zero_iff.1 h
 rw [text, zbY]
 simp [h', zW, shut]
theorem upto_size (t : Tm) (k : Nat) (d : Int) (h : shape t d = true) : (t.upto k).size ≤ 4 * t.size := by
 have h1 : (zW ((t.kids.take k).map bs)).length ≤ (zW (t.kids.map bs)).length := by
  rw [zaF, zaF]
  have e : t.kids.map bs = (t.kids.take k).map bs ++ (t.kids.drop k).map bs := by rw [← zch, List.take_append_drop]
  rw [e, zch, List.sum_append]
  omega
 have h2 := bs_len t d h
 rw [zbY] at h2
 simp only [upto, ByteArray.size, List.size_toArray, zcg] at h2 ⊢
 omega
/-- impl's join. -/
theorem text_join (t : Tm) (h : 0 < t.kids.length) : ((t.name ++ ⟨#[40]⟩) ++ ⟨(Lib.join ((t.kids.map text).map (·.data.toList)) [44]).toArray⟩) ++ ⟨#[41]⟩ = t.text := by
 refine zay ?_
 rw [text, zbY]
 obtain ⟨x, xs, hx⟩ : ∃ x xs, t.kids = x :: xs := by cases hk : t.kids with | nil => rw [hk] at h; simp at h | cons x xs => exact ⟨x, xs, rfl⟩
 have e : (t.kids.map text).map (·.data.toList) = t.kids.map bs := by simp [text, Function.comp_def]
 rw [e, hx]
 simp [Lib.join_cons, zW, shut, ByteArray.data_append]
theorem join_len (t : Tm) (d : Int) (h : shape t d = true) : (Lib.join ((t.kids.map text).map (·.data.toList)) [44]).length ≤ 4 * t.size := by
 have h2 := bs_len t d h
 rw [zbY] at h2
 have e : (t.kids.map text).map (·.data.toList) = t.kids.map bs := by simp [text, Function.comp_def]
 rw [e]
 cases hk : t.kids with
 | nil => simp [Lib.join_nil]
 | cons x xs =>
  rw [hk] at h2
  simp only [List.map_cons, zW, zcg, List.length_cons] at h2
  rw [List.map_cons, Lib.join_cons, zcg]
  omega
end Tm
end Go.Proofs.YtoehhbkhdddeeaaDoor
end
