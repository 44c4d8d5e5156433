/- Parts of the proof: Text Eqs AtomP Shelf TextW AtomW. -/
import Derived.Lib.Join
import Derived.Test.YticlgpkjdmcnaaaPa2
import Derived.Deep.RegionHeld3
import Derived.Test.YticlgpkjdmcnaaaPa12
import Derived.Test.YticlgpkjdmcnaaaPa6
import Derived.Test.YticlgpkjdmcnaaaProg
import Derived.Laws.Concat
import Derived.Deep.QuietTactic
import Derived.BigQuiet
import Derived.Lib.QuietBelow
import Derived.Test.YticlgpkjdmcnaaaPa4
section
namespace Go.Proofs.Yticlgpkjdmcnaaa
open Go Go.RowKit
set_option linter.unusedVariables false
set_option linter.unusedSimpArgs false
set_option maxRecDepth 100000
set_option maxHeartbeats 16000000
namespace Tm
def zaD : List (List UInt8) → List UInt8
 | [] => []
 | x :: xs => 40 :: (x ++ Lib.joinTail [44] xs)
def shut (n : Nat) : List UInt8 := if n = 0 then [] else [41]
def bs : Tm → List UInt8
 | .mk n ks => n.data.toList ++ (zaD (ks.map bs) ++ shut ks.length)
def text (t : Tm) : ByteArray := ⟨t.bs.toArray⟩
theorem bs_eq (t : Tm) : t.bs = t.name.data.toList ++ (zaD (t.kids.map bs) ++ shut t.kids.length) := by cases t; rw [bs]; rfl
theorem zcQ (xs : List (List UInt8)) (y : List UInt8) : zaD (xs ++ [y]) = zaD xs ++ (if xs.length = 0 then 40 else 44) :: y := by
 cases xs with
 | nil => simp [zaD, Lib.joinTail]
 | cons x xs => simp [zaD, Lib.joinTail]
theorem zbw : ∀ (xs : List (List UInt8)), (zaD xs).length = (xs.map (·.length + 1)).sum
 | [] => rfl
 | x :: xs => by
  have h : ∀ l : List (List UInt8), (Lib.joinTail [44] l).length = (l.map (·.length + 1)).sum := by
   intro l
   induction l with
   | nil => rfl
   | cons a l ih => simp [Lib.joinTail] at ih ⊢; omega
  simp [zaD, h]; omega
theorem zdA {n : ByteArray} (h : zaC n = true) : n.size ≤ 2 := by
 simp only [zaC, zeb, decide_eq_true_eq] at h; omega
mutual
theorem bs_len : ∀ (t : Tm) (d : Int), shape t d = true → (bs t).length + 1 ≤ 4 * size t
 | .mk n ks, d, h => by
  simp only [shape, zeb, decide_eq_true_eq] at h
  have h1 := bss_len ks (d - 1) h.2
  have h2 := zdA h.1.1.2
  have h3 : (shut ks.length).length ≤ 1 := by unfold shut; split <;> simp
  have h4 : n.data.toList.length = n.size := by rw [Array.length_toList]; rfl
  rw [bs_eq]
  simp only [name, kids, zd7, size]
  omega
theorem bss_len : ∀ (ts : List Tm) (d : Int), shapes ts d = true → (zaD (ts.map bs)).length ≤ 4 * sizes ts
 | [], d, _ => by simp [zaD]
 | t :: ts, d, h => by
  simp only [shapes, zeb] at h
  have h1 := bs_len t d h.1
  have h2 := bss_len ts d h.2
  rw [zbw] at h2 ⊢
  simp only [List.map_cons, List.sum_cons, sizes] at h2 ⊢
  omega
end
theorem text_size (t : Tm) : t.text.size = t.bs.length := by simp [text, ByteArray.size]
def sign (k : Nat) : ByteArray := if k = 0 then ⟨#[40]⟩ else ⟨#[44]⟩
/-- What the reference has written behind k parts. -/
def upto (t : Tm) (k : Nat) : ByteArray := ⟨(t.name.data.toList ++ zaD ((t.kids.take k).map bs)).toArray⟩
theorem zbI {a b : ByteArray} (h : a.data.toList = b.data.toList) : a = b := by
 cases a; cases b; simp only at h; congr 1; exact Array.toList_inj.1 h
theorem upto_zero (t : Tm) : t.upto 0 = t.name := zbI (by simp [upto, zaD])
theorem upto_succ (t : Tm) (k : Nat) (h : k < t.kids.length) : t.upto (k + 1) = (t.upto k ++ sign k) ++ (t.kids[k]).text := by
 refine zbI ?_
 have e : (t.kids.take (k + 1)).map bs = (t.kids.take k).map bs ++ [bs t.kids[k]] := by
  rw [zd4 h, zd8]; rfl
 have e2 : ((t.kids.take k).map bs).length = k := by rw [zea, List.length_take]; omega
 simp only [upto, e, zcQ, e2, text, sign]
 by_cases hk : k = 0 <;> simp [hk, ByteArray.data_append]
theorem upto_all (t : Tm) (h : 0 < t.kids.length) : t.upto t.kids.length ++ ⟨#[41]⟩ = t.text := by
 refine zbI ?_
 rw [text, bs_eq]
 simp [upto, shut, show t.kids.length ≠ 0 by omega, ByteArray.data_append]
theorem text_none (t : Tm) (h : t.kids.length = 0) : t.text = t.name := by
 refine zbI ?_
 have h' := List.length_eq_zero_iff.1 h
 rw [text, bs_eq]
 simp [h', zaD, shut]
theorem upto_size (t : Tm) (k : Nat) (d : Int) (h : shape t d = true) : (t.upto k).size ≤ 4 * t.size := by
 have h1 : (zaD ((t.kids.take k).map bs)).length ≤ (zaD (t.kids.map bs)).length := by
  rw [zbw, zbw]
  have e : t.kids.map bs = (t.kids.take k).map bs ++ (t.kids.drop k).map bs := by rw [← zd8, List.take_append_drop]
  rw [e, zd8, List.sum_append]
  omega
 have h2 := bs_len t d h
 rw [bs_eq] at h2
 simp only [upto, ByteArray.size, List.size_toArray, zd7] at h2 ⊢
 omega
end Tm
def Eqn.okB (s : Sg) (e : Eqn) : Bool := match e.a.tsrt s, e.b.tsrt s with | some m, some n => m == n | _, _ => false
theorem Eqn.okB_a {s : Sg} {e : Eqn} (h : e.a.tsrt s = none) : e.okB s = false := by simp [Eqn.okB, h]
theorem Eqn.okB_b {s : Sg} {e : Eqn} (h : e.b.tsrt s = none) : e.okB s = false := by unfold Eqn.okB; rw [h]; split <;> simp_all
theorem Eqn.okB_ab {s : Sg} {e : Eqn} {m n : Int} (h : e.a.tsrt s = some m) (h' : e.b.tsrt s = some n) : e.okB s = (m == n) := by simp [Eqn.okB, h, h']
def Tm.noneB (t : Tm) : Bool := t.name.toList == [] && ((t.kids.length : Int) == 0)
def Atm.prevB (x : Atm) (t : Tm) : Nat → Bool
 | 0 => true
 | j + 1 => (match x.nums[j]? with | none => true | some u => nmLt u.text t.text)
def Atm.numAt (x : Atm) (k : Nat) : Bool :=
 match x.nums[k]?, x.times[k]? with
 | some t, some n => t.wf && ((decide ((-50 : Int) ≤ n) && decide (n ≤ 50)) && ((n != 0) && x.prevB t k))
 | _, _ => true
def Atm.eqB (x : Atm) : Bool := x.a.wf && (x.b.wf && ((x.nums.length : Int) == 0 && ((x.times.length : Int) == 0 && (x.bound == 0 && !x.strict))))
def Atm.hdB (x : Atm) : Bool := x.a.noneB && (x.b.noneB && (decide (x.nums.length = x.times.length) && ((decide (1 ≤ x.nums.length) && decide (x.nums.length ≤ 4)) && (decide (-1000 ≤ x.bound) && decide (x.bound ≤ 1000)))))
def Atm.sumB (x : Atm) : Bool := x.hdB && (List.range x.nums.length).all x.numAt
def Atm.okB (x : Atm) : Bool := if x.kind = 1 then x.eqB else if x.kind = 2 then x.sumB else false
theorem Atm.okB_eq {x : Atm} (h : x.kind = 1) : x.okB = x.eqB := if_pos h
theorem Atm.okB_sum {x : Atm} (h : x.kind = 2) : x.okB = x.sumB := by rw [Atm.okB, if_neg (by omega), if_pos h]
theorem Atm.okB_no {x : Atm} (h1 : ¬ x.kind = 1) (h2 : ¬ x.kind = 2) : x.okB = false := by rw [Atm.okB, if_neg h1, if_neg h2]
theorem Atm.sumB_hd {x : Atm} (h : x.hdB = false) : x.sumB = false := by simp [Atm.sumB, h]
theorem Atm.sumB_no {x : Atm} {k : Nat} (hk : k < x.nums.length) (h : x.numAt k = false) : x.sumB = false := by
 have : (List.range x.nums.length).all x.numAt = false := by rw [List.all_eq_false]; exact ⟨k, by simpa using hk, by simp [h]⟩
 simp [Atm.sumB, this]
def Atm.upto (x : Atm) (k : Nat) : Prop := ∀ j, j < k → x.numAt j = true
theorem Atm.upto_zero (x : Atm) : x.upto 0 := fun j h => by omega
theorem Atm.upto_succ {x : Atm} {k : Nat} (h : x.upto k) (h' : x.numAt k = true) : x.upto (k + 1) := fun j hj => by
 rcases Nat.lt_or_ge j k with h1 | h1
 ·exact h j h1
 ·obtain rfl : j = k := by omega
  exact h'
theorem Atm.sumB_all {x : Atm} {k : Nat} (hd : x.hdB = true) (hk : x.nums.length ≤ k) (h : x.upto k) : x.sumB = true := by
 have : (List.range x.nums.length).all x.numAt = true := by rw [List.all_eq_true]; intro j hj; exact h j (by have := List.mem_range.1 hj; omega)
 simp [Atm.sumB, this, hd]
theorem Atm.num_eq {x : Atm} {k : Nat} (h : k < x.nums.length) (h' : k < x.times.length) : x.numAt k = (x.nums[k].wf && ((decide ((-50 : Int) ≤ x.times[k]) && decide (x.times[k] ≤ 50)) && ((x.times[k] != 0) && x.prevB x.nums[k] k))) := by
 simp only [Atm.numAt, List.getElem?_eq_getElem h, List.getElem?_eq_getElem h']
theorem Atm.num_wf {x : Atm} {k : Nat} (h : k < x.nums.length) (h' : k < x.times.length) (e : x.nums[k].wf = false) : x.numAt k = false := by rw [Atm.num_eq h h', e]; rfl
theorem Atm.num_in {x : Atm} {k : Nat} (h : k < x.nums.length) (h' : k < x.times.length) (e : (decide ((-50 : Int) ≤ x.times[k]) && decide (x.times[k] ≤ 50)) = false) : x.numAt k = false := by rw [Atm.num_eq h h', e]; simp
theorem Atm.num_nil {x : Atm} {k : Nat} (h : k < x.nums.length) (h' : k < x.times.length) (e : (x.times[k] == 0) = true) : x.numAt k = false := by rw [Atm.num_eq h h', bne, e]; simp
theorem Atm.num_first {x : Atm} {k : Nat} (hk : k = 0) (h : k < x.nums.length) (h' : k < x.times.length) (e1 : x.nums[k].wf = true) (e2 : (decide ((-50 : Int) ≤ x.times[k]) && decide (x.times[k] ≤ 50)) = true) (e3 : (x.times[k] == 0) = false) : x.numAt k = true := by
 rw [Atm.num_eq h h', e1, e2, bne, e3]
 subst hk; rfl
theorem Atm.num_next {x : Atm} {k j : Nat} (hk : k = j + 1) (hj : j < x.nums.length) (h : k < x.nums.length) (h' : k < x.times.length) (e1 : x.nums[k].wf = true) (e2 : (decide ((-50 : Int) ≤ x.times[k]) && decide (x.times[k] ≤ 50)) = true) (e3 : (x.times[k] == 0) = false) : x.numAt k = nmLt x.nums[j].text x.nums[k].text := by
 rw [Atm.num_eq h h', e1, e2, bne, e3]
 subst hk
 simp only [Atm.prevB, List.getElem?_eq_getElem hj]
 simp
theorem Atm.upto_wf {x : Atm} {k j : Nat} (h : x.upto k) (hl : x.nums.length = x.times.length) (hj : j < k) (hn : j < x.nums.length) : x.nums[j].wf = true := by
 have h1 := h j hj
 rw [Atm.num_eq hn (by omega)] at h1
 simp only [zeb] at h1
 exact h1.1
theorem Atm.sum_wf {x : Atm} (h : x.sumB = true) : ∀ t ∈ x.nums, t.wf = true := by
 intro t ht
 simp only [Atm.sumB, Atm.hdB, zeb, decide_eq_true_eq, List.all_eq_true] at h
 obtain ⟨j, hj, rfl⟩ := List.getElem_of_mem ht
 have h1 := h.2 j (by simpa using hj)
 rw [Atm.num_eq hj (by omega)] at h1
 simp only [zeb] at h1
 exact h1.1
/-- The terms of an atom. -/
def Atm.tms (x : Atm) : List Tm := if x.kind = 1 then [x.a, x.b] else x.nums
theorem Atm.tms_wf {x : Atm} (h : x.okB = true) : ∀ t ∈ x.tms, t.wf = true := by
 intro t ht
 by_cases h1 : x.kind = 1
 ·rw [Atm.okB_eq h1] at h
  simp only [Atm.tms, h1, if_true, zd9, List.not_mem_nil, or_false] at ht
  simp only [Atm.eqB, zeb] at h
  rcases ht with rfl | rfl
  ·exact h.1
  ·exact h.2.1
 ·by_cases h2 : x.kind = 2
  ·rw [Atm.okB_sum h2] at h
   rw [Atm.tms, if_neg h1] at ht
   exact Atm.sum_wf h t ht
  ·rw [Atm.okB_no h1 h2] at h; simp at h
def Lt.tms (x : Lt) : List Tm := if x.atom.okB = true then x.atom.tms else []
end Go.Proofs.Yticlgpkjdmcnaaa
end
namespace Go.Proofs.Yticlgpkjdmcnaaa
end Go.Proofs.Yticlgpkjdmcnaaa
section
namespace Go.Proofs.Yticlgpkjdmcnaaa
open Go Go.RowKit
set_option linter.unusedVariables false
set_option linter.unusedSimpArgs false
set_option maxRecDepth 100000
set_option maxHeartbeats 16000000
theorem Tm.shape_kids {t : Tm} {d : Int} (h : Tm.shape t d = true) : ∀ k ∈ t.kids, Tm.shape k (d - 1) = true := by
 rw [Tm.shape_eq] at h
 simp only [zeb] at h
 have h2 := h.2
 rw [Tm.shapes_all, List.all_eq_true] at h2
 exact h2
theorem Tm.shape_len {t : Tm} {d : Int} (h : Tm.shape t d = true) : t.kids.length ≤ 2 ∧ zaC t.name = true := by
 rw [Tm.shape_eq] at h
 simp only [zeb, decide_eq_true_eq] at h
 exact ⟨h.1.2, h.1.1.2⟩
theorem sz1 (c : UInt8) : (⟨#[c]⟩ : ByteArray).size = 1 := rfl
theorem zbn (P : Program) (a b : ByteArray) (h : a.size + b.size ≤ 9223372036854775807) : ∀ W, (Op.stringOp .add a b).run P W = .ok (.string (a ++ b)) W := fun W => run_string_add_sum W a b h
theorem zau (n : Nat) : ∀ (t : Tm) (d : Int) (v : Value) (w : World), t.size ≤ n → t.size ≤ 1100000 → Tm.shape t d = true → TmR w t v →
  Calls Try.prog 60 #[v] w fun e w' => e = .returned (.string t.text) ∧ Below w.heap.size w w' := by
 induction n with
 | zero => intro t; have := t.size_pos; omega
 | succ n ih =>
  rintro t d v w hn hbig hsh ⟨kv, rfl, hs, hk⟩
  obtain ⟨a, cap, rfl, hc1, hc2⟩ := hk.form
  have HK : Hid (∀ x ∈ t.kids, x.size ≤ n) := fun x hx => by have := Tm.size_kid_mem hx; omega
  have HS : Hid (∀ x ∈ t.kids, Tm.shape x (d - 1) = true) := Lib.hid (Tm.shape_kids hsh)
  have hlen := (Tm.shape_len hsh).1
  have HU := Lib.hid (fun k => Tm.upto_size t k d hsh)
  have HU2 := Lib.hid (fun k h => Tm.upto_succ t k h)
  have HA := Lib.hid (fun h : 0 < t.kids.length => Tm.upto_all t h)
  have HT0 := Lib.hid (Tm.text_none t)
  have HZ := Lib.hid (Tm.upto_zero t)
  have IH := Lib.hid ih
  clear ih
  go_enter Try.func60, Try.ntmps60
  go_wp2_with fail
  go_loopw [3, 4] (fun ov i wr => ∃ (k : Nat), k ≤ t.kids.length ∧ i = .int .i64 k ∧ ov = .string (t.upto k) ∧ Below (w.heap.size + 1) (w.alloc (.cells #[.string t.name, .slice a t.kids.length cap] 45)) wr) (fun _ i _ => t.kids.length - (intOf i).toNat)
  case atStart => exact ⟨0, Nat.zero_le _, rfl, by rw [HZ.out], Below.refl _ _⟩
  case round =>
   obtain ⟨k, hkl, rfl, rfl, hb⟩ := hrel
   obtain ⟨hx, hz, hB⟩ := box1 hb
   have cx1 := hx 1
   simp only [zd2, zd0, zd1] at cx1
   have hu := HU.out k
   by_cases hlt : k < t.kids.length
   ·obtain ⟨b, off, rfl, hbs⟩ := hk.addr (by omega)
    obtain ⟨ka, kc, c0, c1, hss, hkk⟩ := (hk.below hB).at hlt
    have hbz : b < wr.heap.size := by omega
    have hks := Tm.size_mem (zd6 hlt)
    have hsz0 := Tm.size_eq t
    have htx : t.kids[k].text.size ≤ 4400000 := by
     have h1 := Tm.bs_len t.kids[k] (d - 1) (HS.out _ (zd6 hlt))
     rw [Tm.text_size]; omega
    have HN := Lib.hid (HU2.out k hlt)
    by_cases hk0 : k = 0
    ·have tk : ((k : Int) == 0) = true := by simp [hk0]
     have HSG : Hid (Tm.sign k = ⟨#[40]⟩) := Lib.hid (by simp [Tm.sign, hk0])
     obtain ⟨y1, hy1⟩ : ∃ y, t.upto k ++ ⟨#[40]⟩ = y := ⟨_, rfl⟩
     have ha1 := zbn Try.prog (t.upto k) ⟨#[40]⟩ (by rw [sz1]; omega) wr
     have hno1 : ¬ ((t.upto k).size + (⟨#[40]⟩ : ByteArray).size > 9223372036854775807) := by rw [sz1]; omega
     have hno2 : ¬ ((t.upto k).size + 1 > 9223372036854775807) := by omega
     have ha2' := zbn Try.prog (t.upto k ++ ⟨#[40]⟩) t.kids[k].text (by rw [ByteArray.size_append, sz1]; omega)
     have HN2 : Hid ((t.upto k ++ ⟨#[40]⟩) ++ t.kids[k].text = t.upto (k + 1)) := Lib.hid (by rw [HN.out, HSG.out])
     have hno3 : ¬ ((t.upto k ++ ⟨#[40]⟩).size + t.kids[k].text.size > 9223372036854775807) := by rw [ByteArray.size_append, sz1]; omega
     rw [hy1] at hno3
     rw [HN2.out, hy1] at ha2'
     rw [hy1] at ha1
     have HY := Lib.hid ha2'
     clear hy1 ha2' hu hk0
     go_wp2_with fail
     refine (IH.out t.kids[k] (d - 1) _ _ (HK.out _ (zd6 hlt)) (by omega) (HS.out _ (zd6 hlt)) (by exact TmR.mk hss hkk)).mono ?_
     rintro e w2 ⟨rfl, hb2⟩
     have ha2 := HY.out w2
     go_wp2_with fail
     go_roundw
     case rel => exact ⟨k + 1, by omega, by go_num, rfl, hb.trans (hb2.mono hz)⟩
     case measure => simp [intOf]; omega
    ·have tk : ((k : Int) == 0) = false := by simp [hk0]
     have HSG : Hid (Tm.sign k = ⟨#[44]⟩) := Lib.hid (by simp [Tm.sign, hk0])
     obtain ⟨y1, hy1⟩ : ∃ y, t.upto k ++ ⟨#[44]⟩ = y := ⟨_, rfl⟩
     have ha1 := zbn Try.prog (t.upto k) ⟨#[44]⟩ (by rw [sz1]; omega) wr
     have hno1 : ¬ ((t.upto k).size + (⟨#[44]⟩ : ByteArray).size > 9223372036854775807) := by rw [sz1]; omega
     have hno2 : ¬ ((t.upto k).size + 1 > 9223372036854775807) := by omega
     have ha2' := zbn Try.prog (t.upto k ++ ⟨#[44]⟩) t.kids[k].text (by rw [ByteArray.size_append, sz1]; omega)
     have HN2 : Hid ((t.upto k ++ ⟨#[44]⟩) ++ t.kids[k].text = t.upto (k + 1)) := Lib.hid (by rw [HN.out, HSG.out])
     have hno3 : ¬ ((t.upto k ++ ⟨#[44]⟩).size + t.kids[k].text.size > 9223372036854775807) := by rw [ByteArray.size_append, sz1]; omega
     rw [hy1] at hno3
     rw [HN2.out, hy1] at ha2'
     rw [hy1] at ha1
     have HY := Lib.hid ha2'
     clear hy1 ha2' hu hk0
     go_wp2_with fail
     refine (IH.out t.kids[k] (d - 1) _ _ (HK.out _ (zd6 hlt)) (by omega) (HS.out _ (zd6 hlt)) (by exact TmR.mk hss hkk)).mono ?_
     rintro e w2 ⟨rfl, hb2⟩
     have ha2 := HY.out w2
     go_wp2_with fail
     go_roundw
     case rel => exact ⟨k + 1, by omega, by go_num, rfl, hb.trans (hb2.mono hz)⟩
     case measure => simp [intOf]; omega
   ·obtain rfl : k = t.kids.length := by omega
    by_cases h0 : t.kids.length = 0
    ·have HE : Hid (t.text = t.upto t.kids.length) := Lib.hid (by rw [HT0.out h0, h0, HZ.out])
     have h0' : decide ((0 : Int) < (t.kids.length : Int)) = false := by simp [h0]
     go_wp2_with fail
     go_ret
     exact ⟨retS HE.out.symm, hB⟩
    ·have HE := Lib.hid (HA.out (by omega))
     have h0' : decide ((0 : Int) < (t.kids.length : Int)) = true := by simp; omega
     have ha1 := zbn Try.prog (t.upto t.kids.length) ⟨#[41]⟩ (by rw [sz1]; omega) wr
     rw [HE.out] at ha1
     go_wp2_with fail
     go_ret
     exact ⟨rfl, hB⟩
theorem zca (t : Tm) (v : Value) (w : World) (hv : TmR w t v) : Calls Try.prog 77 #[v] w fun e w' => e = .returned (.bool t.noneB) ∧ Below w.heap.size w w' := by
 obtain ⟨kv, rfl, hs, hk⟩ := hv
 obtain ⟨a, cap, rfl, hc1, hc2⟩ := hk.form
 have HB : Hid (t.noneB = (t.name.toList == [] && ((t.kids.length : Int) == 0))) := Lib.hid rfl
 cases h1 : (t.name.toList == [])
 all_goals
  have H1 := Lib.hid h1
  go_enter Try.func77, Try.ntmps77
  go_wp2_with fail
  go_ret
  exact ⟨retB (by rw [HB.out, H1.out]; first | rfl | simp | (simp [Bool.beq_eq_decide_eq])), zb _ _⟩
theorem zdl (t : TypeId) (a b : ByteArray) : binOp .geq t (.string a) (.string b) = pure (.bool (!nmLt a b)) := by simp [binOp, Op.stringOp, nmLt]
def Atm.small (x : Atm) : Prop := x.a.size ≤ 1100000 ∧ x.b.size ≤ 1100000 ∧ Tm.sizes x.nums ≤ 1100000
theorem Tm.wf_shape {t : Tm} (h : t.wf = true) : Tm.shape t 4 = true := by simp only [Tm.wf, zeb] at h; exact h.1
theorem Tm.wf_size {t : Tm} (h : t.wf = true) : t.size ≤ 12 := by simp only [Tm.wf, zeb, decide_eq_true_eq] at h; exact h.2
end Go.Proofs.Yticlgpkjdmcnaaa
end
