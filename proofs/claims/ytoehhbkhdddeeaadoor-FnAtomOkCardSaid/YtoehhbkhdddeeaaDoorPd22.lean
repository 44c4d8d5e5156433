/- Parts of the proof: Sig. -/
import Derived.Deep.QuietTactic
import Derived.BigQuiet
import Derived.Lib.QuietBelow
import Derived.Test.YtoehhbkhdddeeaaDoorPd12
section
namespace Go.Proofs.YtoehhbkhdddeeaaDoor
open Go Go.RowKit
set_option linter.unusedVariables false
set_option linter.unusedSimpArgs false
set_option maxRecDepth 100000
set_option maxHeartbeats 16000000
def srtB (n : Int) : Bool := n == 0 || n == 1
def Sy.okB (x : Sy) : Bool := zH x.name && (decide (x.args.length ≤ 2) && (srtB x.sort && x.args.all srtB))
def nmLt (a b : ByteArray) : Bool := Op.bytesLess a.toList b.toList
def Sg.okAt (s : Sg) (k : Nat) : Bool :=
 match s.syms[k]? with
 | none => true
 | some x => x.okB && (match k with | 0 => true | j + 1 => (match s.syms[j]? with | none => true | some y => nmLt y.name x.name))
def Sg.okB (s : Sg) : Bool := (List.range s.syms.length).all s.okAt && decide (s.syms.length ≤ 7)
theorem Sg.okB_no {s : Sg} {k : Nat} (hk : k < s.syms.length) (h : s.okAt k = false) : s.okB = false := by
 have : (List.range s.syms.length).all s.okAt = false := by rw [List.all_eq_false]; exact ⟨k, by simpa using hk, by simp [h]⟩
 simp [Sg.okB, this]
theorem Sg.okB_all {s : Sg} {k : Nat} (hk : s.syms.length ≤ k) (h : ∀ j, j < k → s.okAt j = true) : s.okB = decide (s.syms.length ≤ 7) := by
 have : (List.range s.syms.length).all s.okAt = true := by rw [List.all_eq_true]; intro j hj; exact h j (by have := List.mem_range.1 hj; omega)
 simp [Sg.okB, this]
theorem Sg.okAt_bad {s : Sg} {k : Nat} (hk : k < s.syms.length) (h : s.syms[k].okB = false) : s.okAt k = false := by simp [Sg.okAt, List.getElem?_eq_getElem hk, h]
theorem Sg.okAt_zero {s : Sg} (hk : 0 < s.syms.length) (h : s.syms[0].okB = true) : s.okAt 0 = true := by simp [Sg.okAt, List.getElem?_eq_getElem hk, h]
theorem Sg.okAt_succ {s : Sg} {k : Nat} (hk : k + 1 < s.syms.length) (h : s.syms[k + 1].okB = true) : s.okAt (k + 1) = nmLt s.syms[k].name s.syms[k + 1].name := by
 simp [Sg.okAt, List.getElem?_eq_getElem hk, List.getElem?_eq_getElem (show k < s.syms.length by omega), h]
theorem za3 (n : Int) (w : World) : Calls Tryd.prog 98 #[.int .i64 n] w fun e w' => e = .returned (.bool (srtB n)) ∧ w = w' := by
 cases h0 : (n == 0) <;> cases h1 : (n == 1)
 all_goals
  have HF : Hid (srtB n = ((n == 0) || (n == 1))) := Lib.hid rfl
  go_enter Tryd.func98, Tryd.ntmps98
  go_wp2
  go_ret
  exact ⟨retB (by rw [HF.out, h0, h1]; rfl), rfl⟩
theorem zK (n : Int) (w : World) : Calls Tryd.prog 76 #[.int .i64 n] w fun e w' => e = .returned (.bool (srtB n)) ∧ w = w' := by
 cases h0 : (n == 0) <;> cases h1 : (n == 1)
 all_goals
  have HF : Hid (srtB n = ((n == 0) || (n == 1))) := Lib.hid rfl
  go_enter Tryd.func76, Tryd.ntmps76
  go_wp2
  go_ret
  exact ⟨retB (by rw [HF.out, h0, h1]; rfl), rfl⟩
theorem zbJ (n : Int) (w : World) : Calls Tryd.prog 100 #[.int .i64 n] w fun e w' => e = .returned (.bool (!srtB n)) ∧ w = w' := by
 go_enter Tryd.func100, Tryd.ntmps100
 go_wp2_with (go_at_call 98; refine (za3 _ _).mono ?_; rintro e w' ⟨rfl, rfl⟩)
 go_ret
 exact ⟨rfl, rfl⟩
def IdxOut (ok : Bool) (n : Nat) (w : World) (e : Ending) (w' : World) : Prop := ∃ i : Int, e = .returned (.int .i64 i) ∧ ((ok = true ∧ i = -1) ∨ (ok = false ∧ 0 ≤ i ∧ i < n)) ∧ w = w'
theorem zaj {p : Int → Bool} {xs : List Int} {k : Nat} (hk : k < xs.length) (h : (xs.take k).all p = true) (h' : p xs[k] = true) : (xs.take (k + 1)).all p = true := by
 rw [zcj hk, List.all_append, h]; simp [h']
theorem zaM {p : Int → Bool} {xs : List Int} {k : Nat} (hk : k < xs.length) (h' : p xs[k] = false) : xs.all p = false := by
 rw [List.all_eq_false]; exact ⟨xs[k], zcl hk, by simp [h']⟩
theorem zaS (xs : List Int) (v : Value) (f : List Nat) (w : World) (hv : Rd w (.sl (xs.map zj)) v f) :
  Calls Tryd.prog 121 #[v, .func (.func 100) #[] #[]] w (IdxOut (xs.all srtB) xs.length w) := by
 obtain ⟨a, c, rfl, hc1, hc2⟩ := zg hv
 go_enter Tryd.func121, Tryd.ntmps121
 go_wp2_with fail
 go_loop [8] (fun i => ∃ k : Nat, k ≤ xs.length ∧ i = .int .i64 k ∧ Hid ((xs.take k).all srtB = true)) (fun i => xs.length - (intOf i).toNat)
 case atStart => exact ⟨0, Nat.zero_le _, rfl, Lib.hid (by simp)⟩
 case round =>
  obtain ⟨k, hkl, rfl, hall⟩ := hrel
  by_cases hlt : k < xs.length
  ·obtain ⟨b, off, rfl, hbs, _⟩ := zp hv (by omega)
   obtain ⟨d0, _⟩ := zM hv hlt
   go_wp2_with fail
   refine (zbJ _ _).mono ?_
   rintro e w2 ⟨rfl, rfl⟩
   cases he : srtB xs[k]
   ·have HE := Lib.hid (zaM hlt he)
    have he' : (!srtB xs[k]) = true := by rw [he]; rfl
    go_wp2_with fail
    go_ret
    exact ⟨k, rfl, .inr ⟨HE.out, by omega, by omega⟩, rfl⟩
   ·have HE := Lib.hid (zaj hlt hall.out he)
    have he' : (!srtB xs[k]) = false := by rw [he]; rfl
    go_wp2_with fail
    go_round
    case rel => exact ⟨k + 1, by omega, by go_num, HE⟩
    case measure => simp [intOf]; omega
  ·have HE : Hid (xs.all srtB = true) := Lib.hid (by have := hall.out; rwa [List.take_of_length_le (by omega)] at this)
   go_wp2_with fail
   go_ret
   exact ⟨-1, rfl, .inl ⟨HE.out, rfl⟩, rfl⟩
theorem zaT (xs : List Int) (v : Value) (f : List Nat) (w : World) (hv : Rd w (.sl (xs.map zj)) v f) :
  Calls Tryd.prog 99 #[v, .func (.func 100) #[] #[]] w fun e w' => e = .returned (.bool (!xs.all srtB)) ∧ w = w' := by
 obtain ⟨a, c, rfl, hc1, hc2⟩ := zg hv
 go_enter Tryd.func99, Tryd.ntmps99
 go_wp2_with fail
 refine (zaS xs _ f _ hv).mono ?_
 rintro e w' ⟨i, rfl, ⟨hi, rfl⟩ | ⟨hi, h0, h1⟩, rfl⟩
 ·have HI := Lib.hid hi
  clear hi
  go_wp2_with fail
  go_ret
  exact ⟨retB (by rw [HI.out]; rfl), rfl⟩
 ·have HI := Lib.hid hi
  clear hi
  go_wp2_with fail
  go_ret
  exact ⟨retB (by rw [HI.out]; simp; try omega), rfl⟩
theorem zar (x : Sy) (vs : List Value) (f : List Nat) (w : World) (hv : RdVs w x.cd vs f) :
  Calls Tryd.prog 73 #[.agg vs.toArray] w fun e w' => e = .returned (.bool x.okB) ∧ Below w.heap.size w w' := by
 obtain ⟨a1, c1, f1, rfl, _, m0, m1, m2⟩ := Sy.open hv
 have HB : Hid (x.okB = (zH x.name && (decide (x.args.length ≤ 2) && (srtB x.sort && x.args.all srtB)))) := Lib.hid rfl
 have hl := zT m1
 go_enter Tryd.func73, Tryd.ntmps73
 go_wp2_with fail
 refine (zau _ _ m0).mono ?_
 rintro e w' ⟨rfl, rfl⟩
 cases h1 : zH x.name
 ·go_wp2_with fail
  go_ret
  exact ⟨retB (by rw [HB.out, h1]; rfl), zb _ _⟩
 have H1 := Lib.hid h1
 clear h1
 by_cases h2 : x.args.length ≤ 2
 rotate_left
 ·go_wp2_with fail
  go_ret
  exact ⟨retB (by rw [HB.out, H1.out, decide_eq_false h2]; rfl), zb _ _⟩
 go_wp2_with fail
 refine (za3 _ _).mono ?_
 rintro e w' ⟨rfl, rfl⟩
 cases h3 : srtB x.sort
 ·go_wp2_with fail
  go_ret
  exact ⟨retB (by rw [HB.out, H1.out, decide_eq_true h2, h3]; rfl), zb _ _⟩
 have H3 := Lib.hid h3
 clear h3
 go_wp2_with fail
 refine (zaT x.args _ _ _ (by exact m1.below (zb _ _))).mono ?_
 rintro e w' ⟨rfl, rfl⟩
 go_wp2_with fail
 go_ret
 exact ⟨retB (by rw [HB.out, H1.out, decide_eq_true h2, H3.out]; simp), zb _ _⟩
end Go.Proofs.YtoehhbkhdddeeaaDoor
end
