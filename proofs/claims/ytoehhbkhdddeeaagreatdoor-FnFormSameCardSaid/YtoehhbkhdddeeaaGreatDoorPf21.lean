/- Parts of the proof: Text Eqs AtomP. -/
import Derived.Lib.Join
import Derived.Test.YtoehhbkhdddeeaaGreatDoorPf2
import Derived.Deep.RegionHeld3
import Derived.Test.YtoehhbkhdddeeaaGreatDoorPf13
import Derived.Test.YtoehhbkhdddeeaaGreatDoorPf6
section
namespace Go.Proofs.YtoehhbkhdddeeaaGreatDoor
open Go Go.RowKit
set_option linter.unusedVariables false
set_option linter.unusedSimpArgs false
set_option maxRecDepth 100000
set_option maxHeartbeats 16000000
namespace Tm
def pieces : List (List UInt8) → List UInt8
 | [] => []
 | x :: xs => 40 :: (x ++ Lib.joinTail [44] xs)
def shut (n : Nat) : List UInt8 := if n = 0 then [] else [41]
def bs : Tm → List UInt8
 | .mk n ks => n.data.toList ++ (pieces (ks.map bs) ++ shut ks.length)
def text (t : Tm) : ByteArray := ⟨t.bs.toArray⟩
theorem bs_eq (t : Tm) : t.bs = t.name.data.toList ++ (pieces (t.kids.map bs) ++ shut t.kids.length) := by cases t; rw [bs]; rfl
theorem zcI (xs : List (List UInt8)) (y : List UInt8) : pieces (xs ++ [y]) = pieces xs ++ (if xs.length = 0 then 40 else 44) :: y := by
 cases xs with
 | nil => simp [pieces, Lib.joinTail]
 | cons x xs => simp [pieces, Lib.joinTail]
theorem za1 : ∀ (xs : List (List UInt8)), (pieces xs).length = (xs.map (·.length + 1)).sum
 | [] => rfl
 | x :: xs => by
  have h : ∀ l : List (List UInt8), (Lib.joinTail [44] l).length = (l.map (·.length + 1)).sum := by
   intro l
   induction l with
   | nil => rfl
   | cons a l ih => simp [Lib.joinTail] at ih ⊢; omega
  simp [pieces, h]; omega
theorem nameB_size {n : ByteArray} (h : zO n = true) : n.size ≤ 2 := by
 simp only [zO, zdY, decide_eq_true_eq] at h; omega
mutual
theorem bs_len : ∀ (t : Tm) (d : Int), shape t d = true → (bs t).length + 1 ≤ 4 * size t
 | .mk n ks, d, h => by
  simp only [shape, zdY, decide_eq_true_eq] at h
  have h1 := bss_len ks (d - 1) h.2
  have h2 := nameB_size h.1.1.2
  have h3 : (shut ks.length).length ≤ 1 := by unfold shut; split <;> simp
  have h4 : n.data.toList.length = n.size := by rw [Array.length_toList]; rfl
  rw [bs_eq]
  simp only [name, kids, zdU, size]
  omega
theorem bss_len : ∀ (ts : List Tm) (d : Int), shapes ts d = true → (pieces (ts.map bs)).length ≤ 4 * sizes ts
 | [], d, _ => by simp [pieces]
 | t :: ts, d, h => by
  simp only [shapes, zdY] at h
  have h1 := bs_len t d h.1
  have h2 := bss_len ts d h.2
  rw [za1] at h2 ⊢
  simp only [List.map_cons, List.sum_cons, sizes] at h2 ⊢
  omega
end
theorem text_size (t : Tm) : t.text.size = t.bs.length := by simp [text, ByteArray.size]
theorem wf_text {t : Tm} (h : wf t = true) : t.text.size ≤ 48 := by
 simp only [wf, zdY, decide_eq_true_eq] at h
 have := bs_len t 4 h.1
 rw [text_size]; omega
def sign (k : Nat) : ByteArray := if k = 0 then ⟨#[40]⟩ else ⟨#[44]⟩
/-- What the reference has written behind k parts. -/
def upto (t : Tm) (k : Nat) : ByteArray := ⟨(t.name.data.toList ++ pieces ((t.kids.take k).map bs)).toArray⟩
theorem bytes_eq {a b : ByteArray} (h : a.data.toList = b.data.toList) : a = b := by
 cases a; cases b; simp only at h; congr 1; exact Array.toList_inj.1 h
theorem upto_zero (t : Tm) : t.upto 0 = t.name := bytes_eq (by simp [upto, pieces])
theorem upto_succ (t : Tm) (k : Nat) (h : k < t.kids.length) : t.upto (k + 1) = (t.upto k ++ sign k) ++ (t.kids[k]).text := by
 refine bytes_eq ?_
 have e : (t.kids.take (k + 1)).map bs = (t.kids.take k).map bs ++ [bs t.kids[k]] := by
  rw [zdR h, zdV]; rfl
 have e2 : ((t.kids.take k).map bs).length = k := by rw [zdX, List.length_take]; omega
 simp only [upto, e, zcI, e2, text, sign]
 by_cases hk : k = 0 <;> simp [hk, ByteArray.data_append]
theorem upto_all (t : Tm) (h : 0 < t.kids.length) : t.upto t.kids.length ++ ⟨#[41]⟩ = t.text := by
 refine bytes_eq ?_
 rw [text, bs_eq]
 simp [upto, shut, show t.kids.length ≠ 0 by omega, ByteArray.data_append]
theorem text_none (t : Tm) (h : t.kids.length = 0) : t.text = t.name := by
 refine bytes_eq ?_
 have h' := List.length_eq_zero_iff.1 h
 rw [text, bs_eq]
 simp [h', pieces, shut]
theorem upto_size (t : Tm) (k : Nat) (d : Int) (h : shape t d = true) : (t.upto k).size ≤ 4 * t.size := by
 have h1 : (pieces ((t.kids.take k).map bs)).length ≤ (pieces (t.kids.map bs)).length := by
  rw [za1, za1]
  have e : t.kids.map bs = (t.kids.take k).map bs ++ (t.kids.drop k).map bs := by rw [← zdV, List.take_append_drop]
  rw [e, zdV, List.sum_append]
  omega
 have h2 := bs_len t d h
 rw [bs_eq] at h2
 simp only [upto, ByteArray.size, List.size_toArray, zdU] at h2 ⊢
 omega
/-- impl's join. -/
theorem text_join (t : Tm) (h : 0 < t.kids.length) : ((t.name ++ ⟨#[40]⟩) ++ ⟨(Lib.join ((t.kids.map text).map (·.data.toList)) [44]).toArray⟩) ++ ⟨#[41]⟩ = t.text := by
 refine bytes_eq ?_
 rw [text, bs_eq]
 obtain ⟨x, xs, hx⟩ : ∃ x xs, t.kids = x :: xs := by cases hk : t.kids with | nil => rw [hk] at h; simp at h | cons x xs => exact ⟨x, xs, rfl⟩
 have e : (t.kids.map text).map (·.data.toList) = t.kids.map bs := by simp [text, Function.comp_def]
 rw [e, hx]
 simp [Lib.join_cons, pieces, shut, ByteArray.data_append]
theorem join_len (t : Tm) (d : Int) (h : shape t d = true) : (Lib.join ((t.kids.map text).map (·.data.toList)) [44]).length ≤ 4 * t.size := by
 have h2 := bs_len t d h
 rw [bs_eq] at h2
 have e : (t.kids.map text).map (·.data.toList) = t.kids.map bs := by simp [text, Function.comp_def]
 rw [e]
 cases hk : t.kids with
 | nil => simp [Lib.join_nil]
 | cons x xs =>
  rw [hk] at h2
  simp only [List.map_cons, pieces, zdU, List.length_cons] at h2
  rw [List.map_cons, Lib.join_cons, zdU]
  omega
end Tm
def Eqn.okB (s : Sg) (e : Eqn) : Bool := match e.a.tsrt s, e.b.tsrt s with | some m, some n => m == n | _, _ => false
theorem Eqn.okB_a {s : Sg} {e : Eqn} (h : e.a.tsrt s = none) : e.okB s = false := by simp [Eqn.okB, h]
theorem Eqn.okB_b {s : Sg} {e : Eqn} (h : e.b.tsrt s = none) : e.okB s = false := by unfold Eqn.okB; rw [h]; split <;> simp_all
theorem Eqn.okB_ab {s : Sg} {e : Eqn} {m n : Int} (h : e.a.tsrt s = some m) (h' : e.b.tsrt s = some n) : e.okB s = (m == n) := by simp [Eqn.okB, h, h']
def Tm.noneB (t : Tm) : Bool := t.name.toList == [] && ((t.kids.length : Int) == 0)
def Atm.prevB (x : Atm) (t : Tm) : Nat → Bool
 | 0 => true
 | j + 1 => (match x.nums[j]? with | none => true | some u => nmLt u.text t.text)
def Atm.numAt (x : Atm) (k : Nat) : Bool :=
 match x.nums[k]?, x.times[k]? with
 | some t, some n => t.wf && ((decide ((-50 : Int) ≤ n) && decide (n ≤ 50)) && ((n != 0) && x.prevB t k))
 | _, _ => true
def Atm.eqB (x : Atm) : Bool := x.a.wf && (x.b.wf && ((x.nums.length : Int) == 0 && ((x.times.length : Int) == 0 && (x.bound == 0 && !x.strict))))
def Atm.hdB (x : Atm) : Bool := x.a.noneB && (x.b.noneB && (decide (x.nums.length = x.times.length) && ((decide (1 ≤ x.nums.length) && decide (x.nums.length ≤ 4)) && (decide (-1000 ≤ x.bound) && decide (x.bound ≤ 1000)))))
def Atm.sumB (x : Atm) : Bool := x.hdB && (List.range x.nums.length).all x.numAt
def Atm.okB (x : Atm) : Bool := if x.kind = 1 then x.eqB else if x.kind = 2 then x.sumB else false
theorem Atm.okB_eq {x : Atm} (h : x.kind = 1) : x.okB = x.eqB := if_pos h
theorem Atm.okB_sum {x : Atm} (h : x.kind = 2) : x.okB = x.sumB := by rw [Atm.okB, if_neg (by omega), if_pos h]
theorem Atm.okB_no {x : Atm} (h1 : ¬ x.kind = 1) (h2 : ¬ x.kind = 2) : x.okB = false := by rw [Atm.okB, if_neg h1, if_neg h2]
theorem Atm.sumB_hd {x : Atm} (h : x.hdB = false) : x.sumB = false := by simp [Atm.sumB, h]
theorem Atm.sumB_no {x : Atm} {k : Nat} (hk : k < x.nums.length) (h : x.numAt k = false) : x.sumB = false := by
 have : (List.range x.nums.length).all x.numAt = false := by rw [List.all_eq_false]; exact ⟨k, by simpa using hk, by simp [h]⟩
 simp [Atm.sumB, this]
def Atm.upto (x : Atm) (k : Nat) : Prop := ∀ j, j < k → x.numAt j = true
theorem Atm.upto_zero (x : Atm) : x.upto 0 := fun j h => by omega
theorem Atm.upto_succ {x : Atm} {k : Nat} (h : x.upto k) (h' : x.numAt k = true) : x.upto (k + 1) := fun j hj => by
 rcases Nat.lt_or_ge j k with h1 | h1
 ·exact h j h1
 ·obtain rfl : j = k := by omega
  exact h'
theorem Atm.sumB_all {x : Atm} {k : Nat} (hd : x.hdB = true) (hk : x.nums.length ≤ k) (h : x.upto k) : x.sumB = true := by
 have : (List.range x.nums.length).all x.numAt = true := by rw [List.all_eq_true]; intro j hj; exact h j (by have := List.mem_range.1 hj; omega)
 simp [Atm.sumB, this, hd]
theorem Atm.num_eq {x : Atm} {k : Nat} (h : k < x.nums.length) (h' : k < x.times.length) : x.numAt k = (x.nums[k].wf && ((decide ((-50 : Int) ≤ x.times[k]) && decide (x.times[k] ≤ 50)) && ((x.times[k] != 0) && x.prevB x.nums[k] k))) := by
 simp only [Atm.numAt, List.getElem?_eq_getElem h, List.getElem?_eq_getElem h']
theorem Atm.num_wf {x : Atm} {k : Nat} (h : k < x.nums.length) (h' : k < x.times.length) (e : x.nums[k].wf = false) : x.numAt k = false := by rw [Atm.num_eq h h', e]; rfl
theorem Atm.num_in {x : Atm} {k : Nat} (h : k < x.nums.length) (h' : k < x.times.length) (e : (decide ((-50 : Int) ≤ x.times[k]) && decide (x.times[k] ≤ 50)) = false) : x.numAt k = false := by rw [Atm.num_eq h h', e]; simp
theorem Atm.num_nil {x : Atm} {k : Nat} (h : k < x.nums.length) (h' : k < x.times.length) (e : (x.times[k] == 0) = true) : x.numAt k = false := by rw [Atm.num_eq h h', bne, e]; simp
theorem Atm.num_first {x : Atm} {k : Nat} (hk : k = 0) (h : k < x.nums.length) (h' : k < x.times.length) (e1 : x.nums[k].wf = true) (e2 : (decide ((-50 : Int) ≤ x.times[k]) && decide (x.times[k] ≤ 50)) = true) (e3 : (x.times[k] == 0) = false) : x.numAt k = true := by
 rw [Atm.num_eq h h', e1, e2, bne, e3]
 subst hk; rfl
theorem Atm.num_next {x : Atm} {k j : Nat} (hk : k = j + 1) (hj : j < x.nums.length) (h : k < x.nums.length) (h' : k < x.times.length) (e1 : x.nums[k].wf = true) (e2 : (decide ((-50 : Int) ≤ x.times[k]) && decide (x.times[k] ≤ 50)) = true) (e3 : (x.times[k] == 0) = false) : x.numAt k = nmLt x.nums[j].text x.nums[k].text := by
 rw [Atm.num_eq h h', e1, e2, bne, e3]
 subst hk
 simp only [Atm.prevB, List.getElem?_eq_getElem hj]
 simp
theorem Atm.upto_wf {x : Atm} {k j : Nat} (h : x.upto k) (hl : x.nums.length = x.times.length) (hj : j < k) (hn : j < x.nums.length) : x.nums[j].wf = true := by
 have h1 := h j hj
 rw [Atm.num_eq hn (by omega)] at h1
 simp only [zdY] at h1
 exact h1.1
theorem Atm.sum_wf {x : Atm} (h : x.sumB = true) : ∀ t ∈ x.nums, t.wf = true := by
 intro t ht
 simp only [Atm.sumB, Atm.hdB, zdY, decide_eq_true_eq, List.all_eq_true] at h
 obtain ⟨j, hj, rfl⟩ := List.getElem_of_mem ht
 have h1 := h.2 j (by simpa using hj)
 rw [Atm.num_eq hj (by omega)] at h1
 simp only [zdY] at h1
 exact h1.1
/-- The terms of an atom. -/
def Atm.tms (x : Atm) : List Tm := if x.kind = 1 then [x.a, x.b] else x.nums
theorem Atm.tms_wf {x : Atm} (h : x.okB = true) : ∀ t ∈ x.tms, t.wf = true := by
 intro t ht
 by_cases h1 : x.kind = 1
 ·rw [Atm.okB_eq h1] at h
  simp only [Atm.tms, h1, if_true, zdW, List.not_mem_nil, or_false] at ht
  simp only [Atm.eqB, zdY] at h
  rcases ht with rfl | rfl
  ·exact h.1
  ·exact h.2.1
 ·by_cases h2 : x.kind = 2
  ·rw [Atm.okB_sum h2] at h
   rw [Atm.tms, if_neg h1] at ht
   exact Atm.sum_wf h t ht
  ·rw [Atm.okB_no h1 h2] at h; simp at h
def Lt.tms (x : Lt) : List Tm := if x.atom.okB = true then x.atom.tms else []
end Go.Proofs.YtoehhbkhdddeeaaGreatDoor
end
