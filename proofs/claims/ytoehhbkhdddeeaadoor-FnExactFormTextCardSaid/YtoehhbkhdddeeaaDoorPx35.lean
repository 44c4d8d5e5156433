/- Parts of the proof: FormX0. -/
import Derived.Test.YtoehhbkhdddeeaaDoorPx31
import Derived.Test.YtoehhbkhdddeeaaDoorPx34
section
namespace Go.Proofs.YtoehhbkhdddeeaaDoor
open Go Go.RowKit
set_option linter.unusedVariables false
set_option linter.unusedSimpArgs false
set_option maxRecDepth 100000
set_option maxHeartbeats 16000000
/-- The sign of a kind. -/
def Fm.sgn (k : Int) : UInt8 := if k = 2 then 33 else if k = 3 then 38 else if k = 4 then 124 else if k = 5 then 62 else 126
/-- The text of a form, byte by byte. -/
def Fm.bs : Fm → List UInt8
 | .mk k l ks => if k = 1 then 123 :: (l.text.data.toList ++ [125]) else Fm.sgn k :: 40 :: (Lib.join (ks.map Fm.bs) [44] ++ [41])
theorem Fm.bs_eq (f : Fm) : f.bs = if f.kind = 1 then 123 :: (f.lit.text.data.toList ++ [125]) else Fm.sgn f.kind :: 40 :: (Lib.join (f.kids.map Fm.bs) [44] ++ [41]) := by cases f; rw [Fm.bs]; rfl
def Fm.text (f : Fm) : ByteArray := ⟨f.bs.toArray⟩
theorem Fm.text_len (f : Fm) : f.text.size = f.bs.length := by simp [Fm.text, ByteArray.size]
theorem Atm.okB_i64 {x : Atm} (h : x.okB = true) : (∀ j (hj : j < x.times.length), I64 x.times[j]) ∧ I64 x.bound := by
 rcases Atm.okB_kind h with ⟨_, he⟩ | ⟨_, _, hs⟩
 ·simp only [Atm.eqB, zcr, beq_iff_eq] at he
  have h1 := he.2.2.2.1
  have h2 := he.2.2.2.2.1
  exact ⟨fun j hj => by omega, by rw [h2]; constructor <;> omega⟩
 ·have hs0 := hs
  simp only [Atm.sumB, Atm.hdB, zcr, decide_eq_true_eq, List.all_eq_true, List.mem_range] at hs
  have hnt : x.nums.length = x.times.length := hs.1.2.2.1
  refine ⟨fun j hj => ?_, by have := hs.1.2.2.2.2; constructor <;> omega⟩
  have h1 := hs.2 j (by omega)
  rw [Atm.num_eq (by omega) hj] at h1
  simp only [zcr, decide_eq_true_eq] at h1
  have h2 := h1.2.1
  constructor <;> omega
theorem Atm.text_ok {x : Atm} (h : x.okB = true) : x.text.size ≤ 400 := Atm.text_size h (Atm.okB_i64 h).1 (Atm.okB_i64 h).2
theorem zaQ (xs : List (List UInt8)) : (Lib.join xs [44]).length ≤ (xs.map (·.length + 1)).sum := by
 cases xs with
 | nil => simp [Lib.join_nil]
 | cons x xs =>
  rw [Lib.join_cons]
  have h : ∀ l : List (List UInt8), (Lib.joinTail [44] l).length = (l.map (·.length + 1)).sum := by
   intro l
   induction l with
   | nil => rfl
   | cons a l ih => simp [Lib.joinTail] at ih ⊢; omega
  simp [h]
theorem Fm.shape_kind {f : Fm} {d : Nat} (h : Fm.shape d f = true) (k1 : f.kind ≠ 1) : Fm.shapes (d - 1) f.kids = true ∧ 1 ≤ d ∧ 0 < f.kids.length ∧ f.kids.length ≤ 2 ∧ (f.kind = 2 ∨ f.kind = 3 ∨ f.kind = 4 ∨ f.kind = 5 ∨ f.kind = 6) := by
 rw [Fm.shape_eq] at h
 by_cases h1 : d < 1 ∨ Fm.nk f.kind ≠ (f.kids.length : Int)
 ·rw [if_pos h1] at h; cases h
 rw [if_neg h1, if_neg k1] at h
 simp only [zcr] at h
 have h2 : Fm.nk f.kind = (f.kids.length : Int) := by
  rcases Decidable.em (Fm.nk f.kind = (f.kids.length : Int)) with h' | h'
  ·exact h'
  ·exact absurd (.inr h') h1
 have h3 : f.kind = 2 ∨ f.kind = 3 ∨ f.kind = 4 ∨ f.kind = 5 ∨ f.kind = 6 := by
  unfold Fm.nk at h2
  repeat' split at h2
  all_goals omega
 refine ⟨h.1, by omega, ?_, ?_, h3⟩
 all_goals
  rcases h3 with h3 | h3 | h3 | h3 | h3 <;> rw [h3] at h2 <;> simp [Fm.nk] at h2 <;> omega
theorem Fm.shape_lit {f : Fm} {d : Nat} (h : Fm.shape d f = true) (k1 : f.kind = 1) : f.lit.atom.okB = true := by
 rw [Fm.shape_eq] at h
 by_cases h1 : d < 1 ∨ Fm.nk f.kind ≠ (f.kids.length : Int)
 ·rw [if_pos h1] at h; cases h
 ·rw [if_neg h1, if_pos k1] at h; exact h
mutual
theorem Fm.bs_len : ∀ (f : Fm) (d : Nat), Fm.shape d f = true → (Fm.bs f).length + 1 ≤ 411 * Fm.many d f
 | .mk k l ks, d, h => by
  by_cases k1 : k = 1
  ·have h2 := Lt.text_size (Atm.text_ok (Fm.shape_lit h (show (Fm.mk k l ks).kind = 1 from k1)))
   have h3 : l.text.data.toList.length = l.text.size := by rw [Array.length_toList]; rfl
   have h4 : (Fm.mk k l ks).lit = l := rfl
   rw [h4] at h2
   rw [Fm.bs_eq, Fm.many_eq, if_pos (show (Fm.mk k l ks).kind = 1 from k1), h4]
   simp only [List.length_cons, zcn, List.length_nil]
   omega
  ·obtain ⟨h1, hd, _⟩ := Fm.shape_kind h (show (Fm.mk k l ks).kind ≠ 1 from k1)
   have h2 := Fm.bss_len ks (d - 1) h1
   have h3 := zaQ (ks.map Fm.bs)
   have h4 : (Fm.mk k l ks).kids = ks := rfl
   rw [Fm.bs_eq, Fm.many_eq, if_neg (show (Fm.mk k l ks).kind ≠ 1 from k1), if_pos (by omega), h4]
   simp only [List.length_cons, zcn, List.length_nil]
   omega
theorem Fm.bss_len : ∀ (ks : List Fm) (d : Nat), Fm.shapes d ks = true → ((ks.map Fm.bs).map (·.length + 1)).sum ≤ 411 * Fm.manys d ks
 | [], d, _ => by simp [Fm.manys]
 | k :: ks, d, h => by
  simp only [Fm.shapes, zcr] at h
  have h1 := Fm.bs_len k d h.1
  have h2 := Fm.bss_len ks d h.2
  simp only [List.map_cons, List.sum_cons, Fm.manys]
  omega
end
theorem Fm.okF_shape {f : Fm} (h : f.okF = true) : Fm.shape 5 f = true ∧ Fm.many 5 f ≤ 10 := by
 rw [Fm.okF_right] at h
 simp only [Fm.rightF, zcr, decide_eq_true_eq] at h
 exact h.1
/-- What the reference has written behind k parts. -/
def Fm.upto (f : Fm) (k : Nat) : ByteArray := ⟨(Fm.sgn f.kind :: 40 :: Lib.join ((f.kids.take k).map Fm.bs) [44]).toArray⟩
theorem zb4 (xs : List (List UInt8)) (y : List UInt8) : Lib.join (xs ++ [y]) [44] = if xs.length = 0 then y else Lib.join xs [44] ++ 44 :: y := by
 cases xs with
 | nil => simp [Lib.join_one]
 | cons x xs => simp [Lib.join_cons, Lib.joinTail]
theorem Fm.upto_zero (f : Fm) : f.upto 0 = ⟨#[Fm.sgn f.kind]⟩ ++ ⟨#[40]⟩ := Tm.bytes_eq (by simp [Fm.upto, Lib.join_nil, ByteArray.data_append])
theorem Fm.upto_succ (f : Fm) (k : Nat) (h : k < f.kids.length) : f.upto (k + 1) = (if k = 0 then f.upto k else f.upto k ++ ⟨#[44]⟩) ++ (f.kids[k]).text := by
 refine Tm.bytes_eq ?_
 have e : (f.kids.take (k + 1)).map Fm.bs = (f.kids.take k).map Fm.bs ++ [Fm.bs f.kids[k]] := by
  rw [zck h, zco]; rfl
 have e2 : ((f.kids.take k).map Fm.bs).length = k := by rw [zcq, List.length_take]; omega
 simp only [Fm.upto, e, zb4, e2, Fm.text]
 by_cases hk : k = 0 <;> simp [hk, ByteArray.data_append, Lib.join_nil]
theorem Fm.upto_all (f : Fm) (k1 : f.kind ≠ 1) : f.upto f.kids.length ++ ⟨#[41]⟩ = f.text := by
 refine Tm.bytes_eq ?_
 rw [Fm.text, Fm.bs_eq, if_neg k1]
 simp [Fm.upto, ByteArray.data_append]
theorem Fm.upto_size (f : Fm) (k : Nat) (d : Nat) (k1 : f.kind ≠ 1) (h : Fm.shape d f = true) : (f.upto k).size ≤ 411 * Fm.many d f := by
 obtain ⟨h1, h2, _⟩ := Fm.shape_kind h k1
 have h3 := Fm.bss_len f.kids (d - 1) h1
 have h4 := zaQ ((f.kids.take k).map Fm.bs)
 have h5 : (((f.kids.take k).map Fm.bs).map (·.length + 1)).sum ≤ ((f.kids.map Fm.bs).map (·.length + 1)).sum := by
  have e : f.kids.map Fm.bs = (f.kids.take k).map Fm.bs ++ (f.kids.drop k).map Fm.bs := by rw [← zco, List.take_append_drop]
  rw [e, zco, List.sum_append]
  omega
 rw [Fm.many_eq, if_pos (by omega)]
 simp only [Fm.upto, ByteArray.size, List.size_toArray, List.length_cons]
 omega
/-- The program's join. -/
theorem Fm.text_join (f : Fm) (k1 : f.kind ≠ 1) : ((⟨#[Fm.sgn f.kind]⟩ ++ ⟨#[40]⟩) ++ ⟨(Lib.join ((f.kids.map Fm.text).map (·.data.toList)) [44]).toArray⟩) ++ ⟨#[41]⟩ = f.text := by
 refine Tm.bytes_eq ?_
 rw [Fm.text, Fm.bs_eq, if_neg k1]
 have e : (f.kids.map Fm.text).map (·.data.toList) = f.kids.map Fm.bs := by simp [Fm.text, Function.comp_def]
 rw [e]
 simp [ByteArray.data_append]
theorem Fm.join_len (f : Fm) (d : Nat) (k1 : f.kind ≠ 1) (h : Fm.shape d f = true) : (Lib.join ((f.kids.map Fm.text).map (·.data.toList)) [44]).length ≤ 411 * Fm.many d f := by
 have e : (f.kids.map Fm.text).map (·.data.toList) = f.kids.map Fm.bs := by simp [Fm.text, Function.comp_def]
 rw [e]
 obtain ⟨h1, h2, _⟩ := Fm.shape_kind h k1
 have h3 := Fm.bss_len f.kids (d - 1) h1
 have h4 := zaQ (f.kids.map Fm.bs)
 rw [Fm.many_eq, if_pos (by omega)]
 omega
theorem Fm.text_lit (f : Fm) (k1 : f.kind = 1) : (⟨#[123]⟩ ++ f.lit.text) ++ ⟨#[125]⟩ = f.text := by
 refine Tm.bytes_eq ?_
 rw [Fm.text, Fm.bs_eq, if_pos k1]
 simp [ByteArray.data_append]
theorem Fm.manys_mem {ks : List Fm} {d : Nat} {x : Fm} (h : x ∈ ks) : Fm.many d x ≤ Fm.manys d ks := by
 induction ks with
 | nil => cases h
 | cons k ks ih =>
  simp only [Fm.manys]
  rcases zcp.1 h with rfl | h
  ·omega
  ·have := ih h; omega
theorem Fm.shapes_mem {ks : List Fm} {d : Nat} {x : Fm} (h : Fm.shapes d ks = true) (hx : x ∈ ks) : Fm.shape d x = true := by
 rw [Fm.shapes_all, List.all_eq_true] at h
 exact h x hx
end Go.Proofs.YtoehhbkhdddeeaaDoor
end
