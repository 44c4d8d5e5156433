/- Parts of the proof: AtomP. -/
import Derived.Test.YtoehhbkhdddeeaaDoorPx7
import Derived.Test.YtoehhbkhdddeeaaDoorPx4
import Derived.Test.YtoehhbkhdddeeaaDoorPx25
section
namespace Go.Proofs.YtoehhbkhdddeeaaDoor
open Go Go.RowKit
set_option linter.unusedVariables false
set_option linter.unusedSimpArgs false
set_option maxRecDepth 100000
set_option maxHeartbeats 16000000
def Tm.noneB (t : Tm) : Bool := t.name.toList == [] && ((t.kids.length : Int) == 0)
def Atm.prevB (x : Atm) (t : Tm) : Nat → Bool
 | 0 => true
 | j + 1 => (match x.nums[j]? with | none => true | some u => nmLt u.text t.text)
def Atm.numAt (x : Atm) (k : Nat) : Bool :=
 match x.nums[k]?, x.times[k]? with
 | some t, some n => t.wf && ((decide ((-50 : Int) ≤ n) && decide (n ≤ 50)) && ((n != 0) && x.prevB t k))
 | _, _ => true
def Atm.eqB (x : Atm) : Bool := x.a.wf && (x.b.wf && ((x.nums.length : Int) == 0 && ((x.times.length : Int) == 0 && (x.bound == 0 && !x.strict))))
def Atm.hdB (x : Atm) : Bool := x.a.noneB && (x.b.noneB && (decide (x.nums.length = x.times.length) && ((decide (1 ≤ x.nums.length) && decide (x.nums.length ≤ 4)) && (decide (-1000 ≤ x.bound) && decide (x.bound ≤ 1000)))))
def Atm.sumB (x : Atm) : Bool := x.hdB && (List.range x.nums.length).all x.numAt
def Atm.okB (x : Atm) : Bool := if x.kind = 1 then x.eqB else if x.kind = 2 then x.sumB else false
theorem Atm.okB_eq {x : Atm} (h : x.kind = 1) : x.okB = x.eqB := if_pos h
theorem Atm.okB_sum {x : Atm} (h : x.kind = 2) : x.okB = x.sumB := by rw [Atm.okB, if_neg (by omega), if_pos h]
theorem Atm.okB_no {x : Atm} (h1 : ¬ x.kind = 1) (h2 : ¬ x.kind = 2) : x.okB = false := by rw [Atm.okB, if_neg h1, if_neg h2]
theorem Atm.sumB_hd {x : Atm} (h : x.hdB = false) : x.sumB = false := by simp [Atm.sumB, h]
theorem Atm.sumB_no {x : Atm} {k : Nat} (hk : k < x.nums.length) (h : x.numAt k = false) : x.sumB = false := by
 have : (List.range x.nums.length).all x.numAt = false := by rw [List.all_eq_false]; exact ⟨k, by simpa using hk, by simp [h]⟩
 simp [Atm.sumB, this]
def Atm.upto (x : Atm) (k : Nat) : Prop := ∀ j, j < k → x.numAt j = true
theorem Atm.upto_zero (x : Atm) : x.upto 0 := fun j h => by omega
theorem Atm.upto_succ {x : Atm} {k : Nat} (h : x.upto k) (h' : x.numAt k = true) : x.upto (k + 1) := fun j hj => by
 rcases Nat.lt_or_ge j k with h1 | h1
 ·exact h j h1
 ·obtain rfl : j = k := by omega
  exact h'
theorem Atm.sumB_all {x : Atm} {k : Nat} (hd : x.hdB = true) (hk : x.nums.length ≤ k) (h : x.upto k) : x.sumB = true := by
 have : (List.range x.nums.length).all x.numAt = true := by rw [List.all_eq_true]; intro j hj; exact h j (by have := List.mem_range.1 hj; omega)
 simp [Atm.sumB, this, hd]
theorem Atm.num_eq {x : Atm} {k : Nat} (h : k < x.nums.length) (h' : k < x.times.length) : x.numAt k = (x.nums[k].wf && ((decide ((-50 : Int) ≤ x.times[k]) && decide (x.times[k] ≤ 50)) && ((x.times[k] != 0) && x.prevB x.nums[k] k))) := by
 simp only [Atm.numAt, List.getElem?_eq_getElem h, List.getElem?_eq_getElem h']
theorem Atm.num_wf {x : Atm} {k : Nat} (h : k < x.nums.length) (h' : k < x.times.length) (e : x.nums[k].wf = false) : x.numAt k = false := by rw [Atm.num_eq h h', e]; rfl
theorem Atm.num_in {x : Atm} {k : Nat} (h : k < x.nums.length) (h' : k < x.times.length) (e : (decide ((-50 : Int) ≤ x.times[k]) && decide (x.times[k] ≤ 50)) = false) : x.numAt k = false := by rw [Atm.num_eq h h', e]; simp
theorem Atm.num_nil {x : Atm} {k : Nat} (h : k < x.nums.length) (h' : k < x.times.length) (e : (x.times[k] == 0) = true) : x.numAt k = false := by rw [Atm.num_eq h h', bne, e]; simp
theorem Atm.num_first {x : Atm} {k : Nat} (hk : k = 0) (h : k < x.nums.length) (h' : k < x.times.length) (e1 : x.nums[k].wf = true) (e2 : (decide ((-50 : Int) ≤ x.times[k]) && decide (x.times[k] ≤ 50)) = true) (e3 : (x.times[k] == 0) = false) : x.numAt k = true := by
 rw [Atm.num_eq h h', e1, e2, bne, e3]
 subst hk; rfl
theorem Atm.num_next {x : Atm} {k j : Nat} (hk : k = j + 1) (hj : j < x.nums.length) (h : k < x.nums.length) (h' : k < x.times.length) (e1 : x.nums[k].wf = true) (e2 : (decide ((-50 : Int) ≤ x.times[k]) && decide (x.times[k] ≤ 50)) = true) (e3 : (x.times[k] == 0) = false) : x.numAt k = nmLt x.nums[j].text x.nums[k].text := by
 rw [Atm.num_eq h h', e1, e2, bne, e3]
 subst hk
 simp only [Atm.prevB, List.getElem?_eq_getElem hj]
 simp
theorem Atm.upto_wf {x : Atm} {k j : Nat} (h : x.upto k) (hl : x.nums.length = x.times.length) (hj : j < k) (hn : j < x.nums.length) : x.nums[j].wf = true := by
 have h1 := h j hj
 rw [Atm.num_eq hn (by omega)] at h1
 simp only [zcr] at h1
 exact h1.1
theorem Atm.sum_wf {x : Atm} (h : x.sumB = true) : ∀ t ∈ x.nums, t.wf = true := by
 intro t ht
 simp only [Atm.sumB, Atm.hdB, zcr, decide_eq_true_eq, List.all_eq_true] at h
 obtain ⟨j, hj, rfl⟩ := List.getElem_of_mem ht
 have h1 := h.2 j (by simpa using hj)
 rw [Atm.num_eq hj (by omega)] at h1
 simp only [zcr] at h1
 exact h1.1
end Go.Proofs.YtoehhbkhdddeeaaDoor
end
