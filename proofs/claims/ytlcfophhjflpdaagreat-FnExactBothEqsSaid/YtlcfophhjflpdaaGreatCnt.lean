/- How many scalars there are, bound by the law's weight. -/
import Derived.Test.YtlcfophhjflpdaaGreatMarkV
namespace Go.Proofs.YtlcfophhjflpdaaGreat
open Go Go.RowKit
set_option linter.unusedVariables false
set_option linter.unusedSimpArgs false

theorem cntR_wt {α : Type} {f : α → List CD} {xs : List α} (h : ∀ x ∈ xs, cntV (f x) ≤ 16 + 16 * wtV (f x)) : cntR (xs.map f) ≤ 16 * (xs.length + wtR (xs.map f)) := by
  induction xs with
  | nil => simp [cntR]
  | cons x xs ih =>
    have h1 := h x (by simp)
    have h2 := ih (fun y hy => h y (by simp [hy]))
    simp only [List.map_cons, cntR, wtR, List.length_cons]
    omega
theorem intCd_cnt (n : Int) : cntV (intCd n) ≤ 16 + 16 * wtV (intCd n) := by simp [intCd, cntV, cnt]; try omega
theorem boolCd_cnt (n : Bool) : cntV (boolCd n) ≤ 16 + 16 * wtV (boolCd n) := by simp [boolCd, cntV, cnt]; try omega
theorem intsCd_cnt (ns : List Int) : cntV (intsCd ns) ≤ 16 + 16 * wtV (intsCd ns) := by
  have h := cntR_wt (f := intCd) (xs := ns) (fun x _ => intCd_cnt x)
  simp only [intsCd, cntV, cnt, wtV, wtC, List.length_map]
  omega
theorem Sy.cd_cnt (x : Sy) : cntV x.cd ≤ 16 + 16 * wtV x.cd := by
  have h0 := cntR_wt (f := intCd) (xs := x.args) (fun y _ => intCd_cnt y)
  rw [Sy.cd_list]
  simp only [cntV, cnt, wtV, wtC, List.length_map]
  omega
theorem Sy.cdT_cnt (x : Sy) : cntT x.cd ≤ 16 * wtV x.cd := by
  have h0 := cntR_wt (f := intCd) (xs := x.args) (fun y _ => intCd_cnt y)
  rw [Sy.cd_list]
  simp only [cntT, wtV, wtC, List.length_map]
  omega
theorem Sg.cd_cnt (x : Sg) : cntV x.cd ≤ 16 + 16 * wtV x.cd := by
  have h0 := cntR_wt (f := Sy.cd) (xs := x.syms) (fun y _ => Sy.cd_cnt y)
  rw [Sg.cd_list]
  simp only [cntV, cnt, wtV, wtC, List.length_map]
  omega
theorem Sg.cdT_cnt (x : Sg) : cntT x.cd ≤ 16 * wtV x.cd := by
  have h0 := cntR_wt (f := Sy.cd) (xs := x.syms) (fun y _ => Sy.cd_cnt y)
  rw [Sg.cd_list]
  simp only [cntT, wtV, wtC, List.length_map]
  omega
theorem Tm.cd_cnt_n (n : Nat) : ∀ (x : Tm), ndV x.cd ≤ n → cntV x.cd ≤ 16 + 16 * wtV x.cd := by
  induction n with
  | zero => intro x hn; have h : 0 < ndV x.cd := by rw [Tm.cd_eq]; simp [ndV, ndC]; try omega
            omega
  | succ n ih =>
    intro x hn
    have h0 := cntR_wt (f := Tm.cd) (xs := x.kids) (fun y hy => ih y (by have := Tm.kid_nd hy; omega))
    rw [Tm.cd_list]
    simp only [cntV, cnt, wtV, wtC, List.length_map]
    omega
theorem Tm.cd_cnt (x : Tm) : cntV x.cd ≤ 16 + 16 * wtV x.cd := Tm.cd_cnt_n _ x (Nat.le_refl _)
theorem Tm.cdT_cnt (x : Tm) : cntT x.cd ≤ 16 * wtV x.cd := by
  have h0 := cntR_wt (f := Tm.cd) (xs := x.kids) (fun y _ => Tm.cd_cnt y)
  rw [Tm.cd_list]
  simp only [cntT, wtV, wtC, List.length_map]
  omega
theorem Eqn.cd_cnt (x : Eqn) : cntV x.cd ≤ 16 + 16 * wtV x.cd := by
  have h0 := cntR_wt (f := Tm.cd) (xs := x.a.kids) (fun y _ => Tm.cd_cnt y)
  have h1 := cntR_wt (f := Tm.cd) (xs := x.b.kids) (fun y _ => Tm.cd_cnt y)
  rw [Eqn.cd_list]
  simp only [cntV, cnt, wtV, wtC, List.length_map]
  omega
theorem Eqn.cdT_cnt (x : Eqn) : cntT x.cd ≤ 16 * wtV x.cd := by
  have h0 := cntR_wt (f := Tm.cd) (xs := x.a.kids) (fun y _ => Tm.cd_cnt y)
  have h1 := cntR_wt (f := Tm.cd) (xs := x.b.kids) (fun y _ => Tm.cd_cnt y)
  rw [Eqn.cd_list]
  simp only [cntT, wtV, wtC, List.length_map]
  omega
theorem Wy.cd_cnt_n (n : Nat) : ∀ (x : Wy), ndV x.cd ≤ n → cntV x.cd ≤ 16 + 16 * wtV x.cd := by
  induction n with
  | zero => intro x hn; have h : 0 < ndV x.cd := by rw [Wy.cd_eq]; simp [ndV, ndC]; try omega
            omega
  | succ n ih =>
    intro x hn
    have h0 := cntR_wt (f := Tm.cd) (xs := x.t.kids) (fun y _ => Tm.cd_cnt y)
    have h1 := cntR_wt (f := Wy.cd) (xs := x.kids) (fun y hy => ih y (by have := Wy.kid_nd hy; omega))
    rw [Wy.cd_list]
    simp only [cntV, cnt, wtV, wtC, List.length_map]
    omega
theorem Wy.cd_cnt (x : Wy) : cntV x.cd ≤ 16 + 16 * wtV x.cd := Wy.cd_cnt_n _ x (Nat.le_refl _)
theorem Wy.cdT_cnt (x : Wy) : cntT x.cd ≤ 16 * wtV x.cd := by
  have h0 := cntR_wt (f := Tm.cd) (xs := x.t.kids) (fun y _ => Tm.cd_cnt y)
  have h1 := cntR_wt (f := Wy.cd) (xs := x.kids) (fun y _ => Wy.cd_cnt y)
  rw [Wy.cd_list]
  simp only [cntT, wtV, wtC, List.length_map]
  omega
theorem Atm.cd_cnt (x : Atm) : cntV x.cd ≤ 16 + 16 * wtV x.cd := by
  have h0 := cntR_wt (f := Tm.cd) (xs := x.a.kids) (fun y _ => Tm.cd_cnt y)
  have h1 := cntR_wt (f := Tm.cd) (xs := x.b.kids) (fun y _ => Tm.cd_cnt y)
  have h2 := cntR_wt (f := Tm.cd) (xs := x.nums) (fun y _ => Tm.cd_cnt y)
  have h3 := cntR_wt (f := intCd) (xs := x.times) (fun y _ => intCd_cnt y)
  rw [Atm.cd_list]
  simp only [cntV, cnt, wtV, wtC, List.length_map]
  omega
theorem Atm.cdT_cnt (x : Atm) : cntT x.cd ≤ 16 * wtV x.cd := by
  have h0 := cntR_wt (f := Tm.cd) (xs := x.a.kids) (fun y _ => Tm.cd_cnt y)
  have h1 := cntR_wt (f := Tm.cd) (xs := x.b.kids) (fun y _ => Tm.cd_cnt y)
  have h2 := cntR_wt (f := Tm.cd) (xs := x.nums) (fun y _ => Tm.cd_cnt y)
  have h3 := cntR_wt (f := intCd) (xs := x.times) (fun y _ => intCd_cnt y)
  rw [Atm.cd_list]
  simp only [cntT, wtV, wtC, List.length_map]
  omega
theorem Lt.cd_cnt (x : Lt) : cntV x.cd ≤ 16 + 16 * wtV x.cd := by
  have h0 := cntR_wt (f := Tm.cd) (xs := x.atom.a.kids) (fun y _ => Tm.cd_cnt y)
  have h1 := cntR_wt (f := Tm.cd) (xs := x.atom.b.kids) (fun y _ => Tm.cd_cnt y)
  have h2 := cntR_wt (f := Tm.cd) (xs := x.atom.nums) (fun y _ => Tm.cd_cnt y)
  have h3 := cntR_wt (f := intCd) (xs := x.atom.times) (fun y _ => intCd_cnt y)
  rw [Lt.cd_list]
  simp only [cntV, cnt, wtV, wtC, List.length_map]
  omega
theorem Lt.cdT_cnt (x : Lt) : cntT x.cd ≤ 16 * wtV x.cd := by
  have h0 := cntR_wt (f := Tm.cd) (xs := x.atom.a.kids) (fun y _ => Tm.cd_cnt y)
  have h1 := cntR_wt (f := Tm.cd) (xs := x.atom.b.kids) (fun y _ => Tm.cd_cnt y)
  have h2 := cntR_wt (f := Tm.cd) (xs := x.atom.nums) (fun y _ => Tm.cd_cnt y)
  have h3 := cntR_wt (f := intCd) (xs := x.atom.times) (fun y _ => intCd_cnt y)
  rw [Lt.cd_list]
  simp only [cntT, wtV, wtC, List.length_map]
  omega
theorem Fm.cd_cnt_n (n : Nat) : ∀ (x : Fm), ndV x.cd ≤ n → cntV x.cd ≤ 16 + 16 * wtV x.cd := by
  induction n with
  | zero => intro x hn; have h : 0 < ndV x.cd := by rw [Fm.cd_eq]; simp [ndV, ndC]; try omega
            omega
  | succ n ih =>
    intro x hn
    have h0 := cntR_wt (f := Tm.cd) (xs := x.lit.atom.a.kids) (fun y _ => Tm.cd_cnt y)
    have h1 := cntR_wt (f := Tm.cd) (xs := x.lit.atom.b.kids) (fun y _ => Tm.cd_cnt y)
    have h2 := cntR_wt (f := Tm.cd) (xs := x.lit.atom.nums) (fun y _ => Tm.cd_cnt y)
    have h3 := cntR_wt (f := intCd) (xs := x.lit.atom.times) (fun y _ => intCd_cnt y)
    have h4 := cntR_wt (f := Fm.cd) (xs := x.kids) (fun y hy => ih y (by have := Fm.kid_nd hy; omega))
    rw [Fm.cd_list]
    simp only [cntV, cnt, wtV, wtC, List.length_map]
    omega
theorem Fm.cd_cnt (x : Fm) : cntV x.cd ≤ 16 + 16 * wtV x.cd := Fm.cd_cnt_n _ x (Nat.le_refl _)
theorem Fm.cdT_cnt (x : Fm) : cntT x.cd ≤ 16 * wtV x.cd := by
  have h0 := cntR_wt (f := Tm.cd) (xs := x.lit.atom.a.kids) (fun y _ => Tm.cd_cnt y)
  have h1 := cntR_wt (f := Tm.cd) (xs := x.lit.atom.b.kids) (fun y _ => Tm.cd_cnt y)
  have h2 := cntR_wt (f := Tm.cd) (xs := x.lit.atom.nums) (fun y _ => Tm.cd_cnt y)
  have h3 := cntR_wt (f := intCd) (xs := x.lit.atom.times) (fun y _ => intCd_cnt y)
  have h4 := cntR_wt (f := Fm.cd) (xs := x.kids) (fun y _ => Fm.cd_cnt y)
  rw [Fm.cd_list]
  simp only [cntT, wtV, wtC, List.length_map]
  omega
theorem Cs.cd_cnt_n (n : Nat) : ∀ (x : Cs), ndV x.cd ≤ n → cntV x.cd ≤ 16 + 16 * wtV x.cd := by
  induction n with
  | zero => intro x hn; have h : 0 < ndV x.cd := by rw [Cs.cd_eq]; simp [ndV, ndC]; try omega
            omega
  | succ n ih =>
    intro x hn
    have h0 := cntR_wt (f := Tm.cd) (xs := x.why.t.kids) (fun y _ => Tm.cd_cnt y)
    have h1 := cntR_wt (f := Wy.cd) (xs := x.why.kids) (fun y _ => Wy.cd_cnt y)
    have h2 := cntR_wt (f := intCd) (xs := x.times) (fun y _ => intCd_cnt y)
    have h3 := cntR_wt (f := Tm.cd) (xs := x.a.kids) (fun y _ => Tm.cd_cnt y)
    have h4 := cntR_wt (f := Tm.cd) (xs := x.b.kids) (fun y _ => Tm.cd_cnt y)
    have h5 := cntR_wt (f := Cs.cd) (xs := x.kids) (fun y hy => ih y (by have := Cs.kid_nd hy; omega))
    rw [Cs.cd_list]
    simp only [cntV, cnt, wtV, wtC, List.length_map]
    omega
theorem Cs.cd_cnt (x : Cs) : cntV x.cd ≤ 16 + 16 * wtV x.cd := Cs.cd_cnt_n _ x (Nat.le_refl _)
theorem Cs.cdT_cnt (x : Cs) : cntT x.cd ≤ 16 * wtV x.cd := by
  have h0 := cntR_wt (f := Tm.cd) (xs := x.why.t.kids) (fun y _ => Tm.cd_cnt y)
  have h1 := cntR_wt (f := Wy.cd) (xs := x.why.kids) (fun y _ => Wy.cd_cnt y)
  have h2 := cntR_wt (f := intCd) (xs := x.times) (fun y _ => intCd_cnt y)
  have h3 := cntR_wt (f := Tm.cd) (xs := x.a.kids) (fun y _ => Tm.cd_cnt y)
  have h4 := cntR_wt (f := Tm.cd) (xs := x.b.kids) (fun y _ => Tm.cd_cnt y)
  have h5 := cntR_wt (f := Cs.cd) (xs := x.kids) (fun y _ => Cs.cd_cnt y)
  rw [Cs.cd_list]
  simp only [cntT, wtV, wtC, List.length_map]
  omega
theorem Lm.cd_cnt (x : Lm) : cntV x.cd ≤ 16 + 16 * wtV x.cd := by
  have h0 := cntR_wt (f := intCd) (xs := x.marks) (fun y _ => intCd_cnt y)
  have h1 := cntR_wt (f := Tm.cd) (xs := x.case.why.t.kids) (fun y _ => Tm.cd_cnt y)
  have h2 := cntR_wt (f := Wy.cd) (xs := x.case.why.kids) (fun y _ => Wy.cd_cnt y)
  have h3 := cntR_wt (f := intCd) (xs := x.case.times) (fun y _ => intCd_cnt y)
  have h4 := cntR_wt (f := Tm.cd) (xs := x.case.a.kids) (fun y _ => Tm.cd_cnt y)
  have h5 := cntR_wt (f := Tm.cd) (xs := x.case.b.kids) (fun y _ => Tm.cd_cnt y)
  have h6 := cntR_wt (f := Cs.cd) (xs := x.case.kids) (fun y _ => Cs.cd_cnt y)
  rw [Lm.cd_list]
  simp only [cntV, cnt, wtV, wtC, List.length_map]
  omega
theorem Lm.cdT_cnt (x : Lm) : cntT x.cd ≤ 16 * wtV x.cd := by
  have h0 := cntR_wt (f := intCd) (xs := x.marks) (fun y _ => intCd_cnt y)
  have h1 := cntR_wt (f := Tm.cd) (xs := x.case.why.t.kids) (fun y _ => Tm.cd_cnt y)
  have h2 := cntR_wt (f := Wy.cd) (xs := x.case.why.kids) (fun y _ => Wy.cd_cnt y)
  have h3 := cntR_wt (f := intCd) (xs := x.case.times) (fun y _ => intCd_cnt y)
  have h4 := cntR_wt (f := Tm.cd) (xs := x.case.a.kids) (fun y _ => Tm.cd_cnt y)
  have h5 := cntR_wt (f := Tm.cd) (xs := x.case.b.kids) (fun y _ => Tm.cd_cnt y)
  have h6 := cntR_wt (f := Cs.cd) (xs := x.case.kids) (fun y _ => Cs.cd_cnt y)
  rw [Lm.cd_list]
  simp only [cntT, wtV, wtC, List.length_map]
  omega
theorem Pp.cd_cnt (x : Pp) : cntV x.cd ≤ 16 + 16 * wtV x.cd := by
  have h0 := cntR_wt (f := Lm.cd) (xs := x.lemmas) (fun y _ => Lm.cd_cnt y)
  have h1 := cntR_wt (f := intsCd) (xs := x.log) (fun y _ => intsCd_cnt y)
  rw [Pp.cd_list]
  simp only [cntV, cnt, wtV, wtC, List.length_map]
  omega
theorem Pp.cdT_cnt (x : Pp) : cntT x.cd ≤ 16 * wtV x.cd := by
  have h0 := cntR_wt (f := Lm.cd) (xs := x.lemmas) (fun y _ => Lm.cd_cnt y)
  have h1 := cntR_wt (f := intsCd) (xs := x.log) (fun y _ => intsCd_cnt y)
  rw [Pp.cd_list]
  simp only [cntT, wtV, wtC, List.length_map]
  omega
theorem fmsCd_cnt (ns : List Fm) : cntV (fmsCd ns) ≤ 16 + 16 * wtV (fmsCd ns) := by
  have h := cntR_wt (f := Fm.cd) (xs := ns) (fun x _ => Fm.cd_cnt x)
  simp only [fmsCd, cntV, cnt, wtV, wtC, List.length_map]
  omega
theorem Stk.cd_cnt (x : Stk) : cntV x.cd ≤ 16 + 16 * wtV x.cd := by
  have h0 := cntR_wt (f := Sy.cd) (xs := x.sig.syms) (fun y _ => Sy.cd_cnt y)
  have h1 := cntR_wt (f := fmsCd) (xs := x.levels) (fun y _ => fmsCd_cnt y)
  rw [Stk.cd_list]
  simp only [cntV, cnt, wtV, wtC, List.length_map]
  omega
theorem Stk.cdT_cnt (x : Stk) : cntT x.cd ≤ 16 * wtV x.cd := by
  have h0 := cntR_wt (f := Sy.cd) (xs := x.sig.syms) (fun y _ => Sy.cd_cnt y)
  have h1 := cntR_wt (f := fmsCd) (xs := x.levels) (fun y _ => fmsCd_cnt y)
  rw [Stk.cd_list]
  simp only [cntT, wtV, wtC, List.length_map]
  omega
theorem Cnf.cd_cnt (x : Cnf) : cntV x.cd ≤ 16 + 16 * wtV x.cd := by
  have h0 := cntR_wt (f := intsCd) (xs := x.list) (fun y _ => intsCd_cnt y)
  rw [Cnf.cd_list]
  simp only [cntV, cnt, wtV, wtC, List.length_map]
  omega
theorem Cnf.cdT_cnt (x : Cnf) : cntT x.cd ≤ 16 * wtV x.cd := by
  have h0 := cntR_wt (f := intsCd) (xs := x.list) (fun y _ => intsCd_cnt y)
  rw [Cnf.cd_list]
  simp only [cntT, wtV, wtC, List.length_map]
  omega
theorem Ln.cd_cnt (x : Ln) : cntV x.cd ≤ 16 + 16 * wtV x.cd := by
  have h0 := cntR_wt (f := intCd) (xs := x.coefs) (fun y _ => intCd_cnt y)
  rw [Ln.cd_list]
  simp only [cntV, cnt, wtV, wtC, List.length_map]
  omega
theorem Ln.cdT_cnt (x : Ln) : cntT x.cd ≤ 16 * wtV x.cd := by
  have h0 := cntR_wt (f := intCd) (xs := x.coefs) (fun y _ => intCd_cnt y)
  rw [Ln.cd_list]
  simp only [cntT, wtV, wtC, List.length_map]
  omega
theorem Rt.cd_cnt (x : Rt) : cntV x.cd ≤ 16 + 16 * wtV x.cd := by
  rw [Rt.cd_list]
  simp only [cntV, cnt, wtV, wtC, List.length_map]
  omega
theorem Rt.cdT_cnt (x : Rt) : cntT x.cd ≤ 16 * wtV x.cd := by
  rw [Rt.cd_list]
  simp only [cntT, wtV, wtC, List.length_map]
  omega
theorem Rw.cd_cnt (x : Rw) : cntV x.cd ≤ 16 + 16 * wtV x.cd := by
  have h0 := cntR_wt (f := Rt.cd) (xs := x.args) (fun y _ => Rt.cd_cnt y)
  rw [Rw.cd_list]
  simp only [cntV, cnt, wtV, wtC, List.length_map]
  omega
theorem Rw.cdT_cnt (x : Rw) : cntT x.cd ≤ 16 * wtV x.cd := by
  have h0 := cntR_wt (f := Rt.cd) (xs := x.args) (fun y _ => Rt.cd_cnt y)
  rw [Rw.cd_list]
  simp only [cntT, wtV, wtC, List.length_map]
  omega
theorem Md.cd_cnt (x : Md) : cntV x.cd ≤ 16 + 16 * wtV x.cd := by
  have h0 := cntR_wt (f := Rw.cd) (xs := x.rows) (fun y _ => Rw.cd_cnt y)
  rw [Md.cd_list]
  simp only [cntV, cnt, wtV, wtC, List.length_map]
  omega
theorem Md.cdT_cnt (x : Md) : cntT x.cd ≤ 16 * wtV x.cd := by
  have h0 := cntR_wt (f := Rw.cd) (xs := x.rows) (fun y _ => Rw.cd_cnt y)
  rw [Md.cd_list]
  simp only [cntT, wtV, wtC, List.length_map]
  omega
end Go.Proofs.YtlcfophhjflpdaaGreat
