/- One constraint: right, and turned; both sides. -/
import Derived.Lib.Hide
import Derived.OwnWalk
import Derived.Deep.CutRange
import Derived.Deep.RegionLaw
import Derived.Test.YteclieenkephfaaGreatCloR
import Derived.Test.YteclieenkephfaaGreatExTo
import Derived.Test.YteclieenkephfaaGreatTermW2
namespace Go.Proofs.YteclieenkephfaaGreat
open Go Go.RowKit
set_option linter.unusedVariables false
set_option linter.unusedSimpArgs false

def coefB (n : Int) : Bool := decide (-1000000 ≤ n) && decide (n ≤ 1000000)
def Ln.okB (x : Ln) : Bool := x.coefs.all coefB && (decide (x.coefs.length = 4) && coefB x.bound)
theorem Ln.okB_bad {x : Ln} {k : Nat} (hk : k < x.coefs.length) (h : coefB x.coefs[k] = false) : x.okB = false := by
  have : x.coefs.all coefB = false := by
    rw [Bool.eq_false_iff]; intro h'; rw [List.all_eq_true] at h'
    have := h' _ (List.getElem_mem hk)
    rw [h] at this; simp at this
  simp [Ln.okB, this]
def CoefTo (x : Ln) (k : Nat) : Prop := ∀ j, j < k → ∀ (h : j < x.coefs.length), coefB x.coefs[j] = true
theorem CoefTo.succ {x : Ln} {k : Nat} (h : CoefTo x k) (hk : k < x.coefs.length) (h' : coefB x.coefs[k] = true) : CoefTo x (k + 1) := fun j hj hl => by
  rcases Nat.lt_or_ge j k with h1 | h1
  · exact h j h1 hl
  · obtain rfl : j = k := by omega
    exact h'
theorem CoefTo.all {x : Ln} {k : Nat} (h : CoefTo x k) (hk : x.coefs.length ≤ k) : x.okB = (decide (x.coefs.length = 4) && coefB x.bound) := by
  have : x.coefs.all coefB = true := by
    rw [List.all_eq_true]; intro c hc
    obtain ⟨j, hj, rfl⟩ := List.getElem_of_mem hc
    exact h j (by omega) hj
  simp [Ln.okB, this]
def Ln.zero : Ln := ⟨[], 0, false⟩
/-- LinNot. -/
def Ln.not (x : Ln) : Ln := if x.okB = true then ⟨x.coefs.map (fun n => -n), -x.bound, !x.strict⟩ else Ln.zero
theorem Ln.not_no {x : Ln} (h : x.okB = false) : x.not = Ln.zero := by unfold Ln.not; rw [h]; rfl
theorem Ln.not_yes {x : Ln} (h : x.okB = true) : x.not = ⟨x.coefs.map (fun n => -n), -x.bound, !x.strict⟩ := if_pos h
theorem coefB_bd {n : Int} (h : coefB n = true) : -1000000 ≤ n ∧ n ≤ 1000000 := by simpa [coefB] using h
theorem Ln.okB_coef {x : Ln} (h : x.okB = true) : x.coefs.length = 4 ∧ (∀ c ∈ x.coefs, -1000000 ≤ c ∧ c ≤ 1000000) ∧ -1000000 ≤ x.bound ∧ x.bound ≤ 1000000 := by
  simp only [Ln.okB, Bool.and_eq_true, List.all_eq_true, decide_eq_true_eq] at h
  have h3 := coefB_bd h.2.2
  exact ⟨h.2.1, fun c hc => coefB_bd (h.1 c hc), h3.1, h3.2⟩
theorem Ln.zero_rd (w : World) : RdVs w Ln.zero.cd [.slice none 0 0, .int .i64 0, .bool false] [] := by
  have h := Ln.close (x := Ln.zero) (a0 := none) (c0 := 0) (f0 := []) (w := w) (by simp only [Ln.zero, List.map_nil, Rd]; exact ⟨none, 0, rfl, by simp, by simp [maxLen], by simp⟩) (by constructor <;> simp [Ln.zero])
  exact h
theorem isCoef_any (n : Int) (w : World) : Calls Tryz.prog 100 #[.int .i64 n] w fun e w' => e = .returned (.bool (coefB n)) ∧ w = w' := by
  go_enter Tryz.func100, Tryz.ntmps100
  go_wp2_with fail
  refine (within_any _ _ _ _).mono ?_
  rintro e w1 ⟨rfl, rfl⟩
  go_wp2_with fail
  go_ret
  exact ⟨rfl, rfl⟩
theorem l2Small_any (n : Int) (w : World) : Calls Tryz.prog 103 #[.int .i64 n] w fun e w' => e = .returned (.bool (coefB n)) ∧ w = w' := by
  by_cases h1 : (-1000000 : Int) ≤ n
  · by_cases h2 : n ≤ (1000000 : Int)
    · have HF : Hid (true = coefB n) := Lib.hid (by simp [coefB, h1, h2])
      have d1 : decide ((-1000000 : Int) ≤ n) = true := by simpa using h1
      have d2 : decide (n ≤ (1000000 : Int)) = true := by simpa using h2
      go_enter Tryz.func103, Tryz.ntmps103
      go_wp2_with fail
      go_ret
      exact ⟨retB HF.out, rfl⟩
    · have HF : Hid (false = coefB n) := Lib.hid (by simp [coefB, h1, h2])
      have d1 : decide ((-1000000 : Int) ≤ n) = true := by simpa using h1
      have d2 : decide (n ≤ (1000000 : Int)) = false := by simpa using h2
      go_enter Tryz.func103, Tryz.ntmps103
      go_wp2_with fail
      go_ret
      exact ⟨retB HF.out, rfl⟩
  · have HF : Hid (false = coefB n) := Lib.hid (by simp [coefB, h1])
    have d1 : decide ((-1000000 : Int) ≤ n) = false := by simpa using h1
    go_enter Tryz.func103, Tryz.ntmps103
    go_wp2_with fail
    go_ret
    exact ⟨retB HF.out, rfl⟩
set_option maxHeartbeats 1000000 in
theorem linOk_any (x : Ln) (vs : List Value) (f : List Nat) (w : World) (hv : RdVs w x.cd vs f) :
    Calls Tryz.prog 79 #[.agg vs.toArray] w fun e w' => e = .returned (.bool x.okB) ∧ Below w.heap.size w w' := by
  obtain ⟨a0, c0, f0, rfl, _, m0, m1⟩ := Ln.open hv
  obtain ⟨_, _, hq0, hq1, hq2⟩ := rd_sl_inv m0
  go_enter Tryz.func79, Tryz.ntmps79
  go_wp2_with fail
  go_loopw [4, 8] (fun _ i wr => ∃ k : Nat, k ≤ x.coefs.length ∧ i = .int .i64 k ∧ Hid (CoefTo x k) ∧ Below (w.heap.size + 1) (w.alloc (.cells #[.slice a0 x.coefs.length c0, .int .i64 x.bound, .bool x.strict] 69)) wr) (fun _ i _ => x.coefs.length - (intOf i).toNat)
  case atStart => exact ⟨0, Nat.zero_le _, rfl, Lib.hid (fun j hj => by omega), Below.refl _ _⟩
  case round =>
    obtain ⟨k, hk, rfl, hall, hbb⟩ := hrel
    obtain ⟨bx, hz, hB⟩ := box1 hbb
    have X0 := bx 0
    have X1 := bx 1
    simp only [List.getElem?_toArray, List.getElem?_cons_zero, List.getElem?_cons_succ] at X0 X1
    clear bx
    by_cases hlt : k < x.coefs.length
    · obtain ⟨b, off, rfl, hbs, _⟩ := rd_addr m0 (by omega)
      obtain ⟨d0, i0⟩ := intCd_at (m0.below hB) hlt
      have hbz : b < wr.heap.size := by have := hB.size; omega
      cases hc : coefB x.coefs[k]
      · have HF := Lib.hid (Ln.okB_bad hlt hc)
        have HC := Lib.hid hc
        clear hc
        go_wp2_with fail
        refine (isCoef_any _ _).mono ?_
        rintro e w2 ⟨rfl, rfl⟩
        rw [HC.out]
        go_wp2_with fail
        go_ret
        exact ⟨retB HF.out.symm, hB⟩
      · have HE := Lib.hid (hall.out.succ hlt hc)
        have HC := Lib.hid hc
        clear hc
        go_wp2_with fail
        refine (isCoef_any _ _).mono ?_
        rintro e w2 ⟨rfl, rfl⟩
        rw [HC.out]
        go_wp2_with fail
        go_roundw
        case rel => exact ⟨k + 1, by omega, by go_num, HE, hbb⟩
        case measure => simp [intOf]; omega
    · have HF := Lib.hid (hall.out.all (by omega))
      by_cases h4 : x.coefs.length = 4
      · have h4b : ((x.coefs.length : Int) == (4 : Int)) = true := by simp; omega
        have HG : Hid (coefB x.bound = x.okB) := Lib.hid (by rw [HF.out, decide_eq_true h4]; rfl)
        go_wp2_with fail
        refine (isCoef_any _ _).mono ?_
        rintro e w2 ⟨rfl, rfl⟩
        go_wp2_with fail
        go_ret
        exact ⟨retB HG.out, hB⟩
      · have h4b : ((x.coefs.length : Int) == (4 : Int)) = false := by simp; omega
        have HG : Hid (false = x.okB) := Lib.hid (by rw [HF.out, decide_eq_false h4]; rfl)
        go_wp2_with fail
        go_ret
        exact ⟨retB HG.out, hB⟩
set_option maxHeartbeats 1000000 in
theorem linOkS_any (x : Ln) (vs : List Value) (f : List Nat) (w : World) (hv : RdVs w x.cd vs f) :
    Calls Tryz.prog 88 #[.agg vs.toArray] w fun e w' => e = .returned (.bool x.okB) ∧ Below w.heap.size w w' := by
  obtain ⟨a0, c0, f0, rfl, _, m0, m1⟩ := Ln.open hv
  obtain ⟨_, _, hq0, hq1, hq2⟩ := rd_sl_inv m0
  go_enter Tryz.func88, Tryz.ntmps88
  go_wp2_with fail
  go_loopw [3] (fun i wr => ∃ k : Nat, k ≤ x.coefs.length ∧ i = .int .i64 k ∧ Hid (CoefTo x k) ∧ Below (w.heap.size + 1) (w.alloc (.cells #[.slice a0 x.coefs.length c0, .int .i64 x.bound, .bool x.strict] 69)) wr) (fun i _ => x.coefs.length - (intOf i).toNat)
  case atStart => exact ⟨0, Nat.zero_le _, rfl, Lib.hid (fun j hj => by omega), Below.refl _ _⟩
  case round =>
    obtain ⟨k, hk, rfl, hall, hbb⟩ := hrel
    obtain ⟨bx, hz, hB⟩ := box1 hbb
    have X0 := bx 0
    have X1 := bx 1
    simp only [List.getElem?_toArray, List.getElem?_cons_zero, List.getElem?_cons_succ] at X0 X1
    clear bx
    by_cases hlt : k < x.coefs.length
    · obtain ⟨b, off, rfl, hbs, _⟩ := rd_addr m0 (by omega)
      obtain ⟨d0, i0⟩ := intCd_at (m0.below hB) hlt
      have hbz : b < wr.heap.size := by have := hB.size; omega
      cases hc : coefB x.coefs[k]
      · have HF := Lib.hid (Ln.okB_bad hlt hc)
        have HC := Lib.hid hc
        clear hc
        go_wp2_with fail
        refine (l2Small_any _ _).mono ?_
        rintro e w2 ⟨rfl, rfl⟩
        rw [HC.out]
        go_wp2_with fail
        go_ret
        exact ⟨retB HF.out.symm, hB⟩
      · have HE := Lib.hid (hall.out.succ hlt hc)
        have HC := Lib.hid hc
        clear hc
        go_wp2_with fail
        refine (l2Small_any _ _).mono ?_
        rintro e w2 ⟨rfl, rfl⟩
        rw [HC.out]
        go_wp2_with fail
        go_roundw
        case rel => exact ⟨k + 1, by omega, by go_num, HE, hbb⟩
        case measure => simp [intOf]; omega
    · have HF := Lib.hid (hall.out.all (by omega))
      by_cases h4 : x.coefs.length = 4
      · have h4b : ((x.coefs.length : Int) == (4 : Int)) = true := by simp; omega
        have HG : Hid (coefB x.bound = x.okB) := Lib.hid (by rw [HF.out, decide_eq_true h4]; rfl)
        go_wp2_with fail
        refine (l2Small_any _ _).mono ?_
        rintro e w2 ⟨rfl, rfl⟩
        go_wp2_with fail
        go_ret
        exact ⟨retB HG.out, hB⟩
      · have h4b : ((x.coefs.length : Int) == (4 : Int)) = false := by simp; omega
        have HG : Hid (false = x.okB) := Lib.hid (by rw [HF.out, decide_eq_false h4]; rfl)
        go_wp2_with fail
        go_ret
        exact ⟨retB HG.out, hB⟩
end Go.Proofs.YteclieenkephfaaGreat
