/- Parts of the proof: SameD SameE StkY. -/
import Derived.Test.YtbfinjiledfpcaaGreatPb11
import Derived.Test.YtbfinjiledfpcaaGreatPb39
section
namespace Go.Proofs.YtbfinjiledfpcaaGreat
open Go Go.RowKit
set_option linter.unusedVariables false
set_option linter.unusedSimpArgs false
set_option maxRecDepth 100000
set_option maxHeartbeats 16000000
theorem sameFm_n (n : Nat) : ∀ (x y : Fm) (vs us : List Value) (f f' : List Nat) (w : World), ndV x.cd ≤ n → RdVs w x.cd vs f → RdVs w y.cd us f' → Calls Tryz.prog 25 #[.agg vs.toArray, .agg us.toArray] w fun e w' => e = .returned (.bool (eqV x.cd y.cd)) ∧ Below w.heap.size w w' := by
 induction n with
 | zero => intro x y vs us f f' w hn; have h : 0 < ndV x.cd := (by rw [Fm.cd_eq]; simp [ndV, ndC]; try omega); omega
 | succ n ih =>
  intro x y vs us f f' w hn hv hx
  have HK : Hid (∀ k ∈ x.kids, ndV k.cd ≤ n) := fun k hk => by have := Fm.kid_nd hk; omega
  have IH := Lib.hid ih
  clear ih
  obtain ⟨a3, c3, f3, a5, c5, f5, a6, c6, f6, a7, c7, f7, a11, c11, f11, rfl, _, m0, m1, m2, m3, m4, m5, m6, m7, m8, m9⟩ := Fm.open hv
  obtain ⟨a3', c3', f3', a5', c5', f5', a6', c6', f6', a7', c7', f7', a11', c11', f11', rfl, _, m0', m1', m2', m3', m4', m5', m6', m7', m8', m9'⟩ := Fm.open hx
  go_enter Tryz.func25, Tryz.ntmps25
  cases tk1 : (x.kind == y.kind)
  ·have HF := Lib.hid (Fm.eqv_kind tk1)
   go_wp2_with fail
   go_ret
   exact ⟨retB HF.out.symm, (((Below.refl _ _).alloc (Nat.le_refl _) _).alloc (by simp) _)⟩
  have HT_kind := Lib.hid tk1
  cases tk2 : (x.lit.no == y.lit.no)
  ·have HF := Lib.hid (Fm.eqv_lit_no tk2)
   go_wp2_with fail
   go_ret
   exact ⟨retB HF.out.symm, (((Below.refl _ _).alloc (Nat.le_refl _) _).alloc (by simp) _)⟩
  have HT_lit_no := Lib.hid tk2
  go_wp2_with fail
  refine (zcC x.lit.atom y.lit.atom _ _ _ _ _ (by exact (Atm.close m1 m2 m3 m4 m5 m6 m7 m8).below (((Below.refl _ _).alloc (Nat.le_refl _) _).alloc (by simp) _)) (by exact (Atm.close m1' m2' m3' m4' m5' m6' m7' m8').below (((Below.refl _ _).alloc (Nat.le_refl _) _).alloc (by simp) _))).mono ?_
  rintro e w1 ⟨rfl, hb1⟩
  obtain ⟨hx1, hy1, hz1, hB1⟩ := box2 (w := w) (wr := w1) (cs := #[.int .i64 x.kind, .int .i64 x.lit.atom.kind, .string x.lit.atom.a.name, .slice a3 x.lit.atom.a.kids.length c3, .string x.lit.atom.b.name, .slice a5 x.lit.atom.b.kids.length c5, .slice a6 x.lit.atom.nums.length c6, .slice a7 x.lit.atom.times.length c7, .int .i64 x.lit.atom.bound, .bool x.lit.atom.strict, .bool x.lit.no, .slice a11 x.kids.length c11]) (ds := #[.int .i64 y.kind, .int .i64 y.lit.atom.kind, .string y.lit.atom.a.name, .slice a3' y.lit.atom.a.kids.length c3', .string y.lit.atom.b.name, .slice a5' y.lit.atom.b.kids.length c5', .slice a6' y.lit.atom.nums.length c6', .slice a7' y.lit.atom.times.length c7', .int .i64 y.lit.atom.bound, .bool y.lit.atom.strict, .bool y.lit.no, .slice a11' y.kids.length c11']) (T := 36) (U := 36) (zq hb1 (by simp))
  cases hq1 : eqV x.lit.atom.cd y.lit.atom.cd
  ·have HF := Lib.hid (Fm.eqv_lit_atom hq1)
   clear hq1
   go_wp2_with fail
   go_ret
   exact ⟨retB HF.out.symm, hB1⟩
  have HT_lit_atom := Lib.hid hq1
  clear hq1
  go_wp2_with fail
  refine ((zdS x.kids y.kids (fun k hk y' vs us f f' w => IH.out k y' vs us f f' w (HK.out k hk))) _ _ _ _ _ (by exact m9.below hB1) (by exact m9'.below hB1)).mono ?_
  rintro e w2 ⟨rfl, hb2⟩
  have hB2 := hB1.trans (hb2.mono (by omega))
  have hx2 := zg hx1 (by omega) hb2
  have hy2 := zg hy1 (by omega) hb2
  have hz2 := Nat.le_trans hz1 hb2.size
  clear hx1 hy1
  cases hq2 : eqR (x.kids.map Fm.cd) (y.kids.map Fm.cd)
  ·have HF := Lib.hid (Fm.eqv_kids hq2)
   clear hq2
   go_wp2_with fail
   go_ret
   exact ⟨retB HF.out.symm, hB2⟩
  have HT_kids := Lib.hid hq2
  clear hq2
  go_wp2_with fail
  go_ret
  exact ⟨retB (by rw [Fm.eqv, HT_kind.out, HT_lit_no.out, HT_lit_atom.out, HT_kids.out]; try rfl), hB2⟩
theorem ze0 (x y : Fm) (vs us : List Value) (f f' : List Nat) (w : World) (hv : RdVs w x.cd vs f) (hx : RdVs w y.cd us f') :
  Calls Tryz.prog 25 #[.agg vs.toArray, .agg us.toArray] w fun e w' => e = .returned (.bool (eqV x.cd y.cd)) ∧ Below w.heap.size w w' := sameFm_n _ x y vs us f f' w (Nat.le_refl _) hv hx
theorem eqV_fms (x y : List Fm) : eqV (zH x) (zH y) = eqR (x.map Fm.cd) (y.map Fm.cd) := by simp only [zH, zda]
theorem sameFms_x (x y : List Fm) (v u : Value) (f f' : List Nat) (w : World) (hv : Rd w (.sl (x.map Fm.cd)) v f) (hx : Rd w (.sl (y.map Fm.cd)) u f') :
  Calls Tryz.prog 68 #[v, u] w fun e w' => e = .returned (.bool (eqV (zH x) (zH y))) ∧ Below w.heap.size w w' := by
 obtain ⟨a, c, rfl, hc1, hc2⟩ := zh hv
 obtain ⟨a', c', rfl, hc1', hc2'⟩ := zh hx
 rw [eqV_fms]
 go_enter Tryz.func68, Tryz.ntmps68
 go_wp2_with fail
 refine (zdS x y (fun x _ y vs us f f' w => ze0 x y vs us f f' w) _ _ _ _ _ hv hx).mono ?_
 rintro e w1 ⟨rfl, hb1⟩
 go_wp2_with fail
 go_ret
 exact ⟨rfl, hb1⟩
theorem zeH (xs ys : List (List Fm)) (v u : Value) (f f' : List Nat) (w : World) (hv : Rd w (.sl (xs.map zH)) v f) (hx : Rd w (.sl (ys.map zH)) u f') : Calls Tryz.prog 67 #[v, u, .func (.func 68) #[] #[]] w fun e w' => e = .returned (.bool (eqR (xs.map zH) (ys.map zH))) ∧ Below w.heap.size w w' := ze8 xs ys (fun x _ y v u f f' w hv hx => sameFms_x x y v u f f' w hv hx) v u f f' w hv hx
theorem sameStk_x (x y : Stk) (vs us : List Value) (f f' : List Nat) (w : World) (hv : RdVs w x.cd vs f) (hx : RdVs w y.cd us f') :
  Calls Tryz.prog 31 #[.agg vs.toArray, .agg us.toArray] w fun e w' => e = .returned (.bool (eqV x.cd y.cd)) ∧ Below w.heap.size w w' := by
 obtain ⟨a0, c0, f0, a1, c1, f1, rfl, _, m0, m1⟩ := Stk.open hv
 obtain ⟨a0', c0', f0', a1', c1', f1', rfl, _, m0', m1'⟩ := Stk.open hx
 go_enter Tryz.func31, Tryz.ntmps31
 go_wp2_with fail
 refine (sameSg_x x.sig y.sig _ _ _ _ _ (by exact (Sg.close m0).below (((Below.refl _ _).alloc (Nat.le_refl _) _).alloc (by simp) _)) (by exact (Sg.close m0').below (((Below.refl _ _).alloc (Nat.le_refl _) _).alloc (by simp) _))).mono ?_
 rintro e w1 ⟨rfl, hb1⟩
 obtain ⟨hx1, hy1, hz1, hB1⟩ := box2 (w := w) (wr := w1) (cs := #[.slice a0 x.sig.syms.length c0, .slice a1 x.levels.length c1]) (ds := #[.slice a0' y.sig.syms.length c0', .slice a1' y.levels.length c1']) (T := 53) (U := 53) (zq hb1 (by simp))
 cases hq1 : eqV x.sig.cd y.sig.cd
 ·have HF := Lib.hid (Stk.eqv_sig hq1)
  clear hq1
  go_wp2_with fail
  go_ret
  exact ⟨retB HF.out.symm, hB1⟩
 have HT_sig := Lib.hid hq1
 clear hq1
 go_wp2_with fail
 refine (zeH x.levels y.levels _ _ _ _ _ (by exact m1.below hB1) (by exact m1'.below hB1)).mono ?_
 rintro e w2 ⟨rfl, hb2⟩
 have hB2 := hB1.trans (hb2.mono (by omega))
 have hx2 := zg hx1 (by omega) hb2
 have hy2 := zg hy1 (by omega) hb2
 have hz2 := Nat.le_trans hz1 hb2.size
 clear hx1 hy1
 cases hq2 : eqR (x.levels.map zH) (y.levels.map zH)
 ·have HF := Lib.hid (Stk.eqv_levels hq2)
  clear hq2
  go_wp2_with fail
  go_ret
  exact ⟨retB HF.out.symm, hB2⟩
 have HT_levels := Lib.hid hq2
 clear hq2
 go_wp2_with fail
 go_ret
 exact ⟨retB (by rw [Stk.eqv, HT_sig.out, HT_levels.out]; try rfl), hB2⟩
def RtOut (P : Stk) (b : Bool) (w : World) (e : Ending) (w' : World) : Prop := ∃ (us : List Value) (fs : List Nat), e = .returned (.tuple #[.agg us.toArray, .bool b]) ∧ RdVs w' P.cd us fs ∧ Below w.heap.size w w'
theorem push_as (K P : Stk) (b : Bool) (h : K.push = (P, b)) (vs : List Value) (gk : List Nat) (w : World) (hbig : wtV K.cd ≤ 1048576) (hv : RdVs w K.cd vs gk) :
  Calls Tryz.prog 27 #[.agg vs.toArray] w (RtOut P b w) := by
 refine (zdF K vs gk w hbig hv).mono ?_
 rintro e w' ⟨us, fs, he, hr, _, hb⟩
 rw [h] at he hr
 exact ⟨us, fs, he, hr, hb⟩
theorem pushS_as (K P : Stk) (b : Bool) (h : K.push = (P, b)) (vs : List Value) (gk : List Nat) (w : World) (hbig : wtV K.cd ≤ 1048576) (hv : RdVs w K.cd vs gk) :
  Calls Tryz.prog 28 #[.agg vs.toArray] w (RtOut P b w) := by
 refine (zbr K vs gk w hbig hv).mono ?_
 rintro e w' ⟨us, fs, he, hr, _, hb⟩
 rw [h] at he hr
 exact ⟨us, fs, he, hr, hb⟩
theorem pop_as (K P : Stk) (b : Bool) (h : K.pop = (P, b)) (vs : List Value) (gk : List Nat) (w : World) (hbig : wtV K.cd ≤ 1048576) (hv : RdVs w K.cd vs gk) :
  Calls Tryz.prog 29 #[.agg vs.toArray] w (RtOut P b w) := by
 refine (zec K vs gk w hbig hv).mono ?_
 rintro e w' ⟨us, fs, he, hr, _, hb⟩
 rw [h] at he hr
 exact ⟨us, fs, he, hr, hb⟩
theorem popS_as (K P : Stk) (b : Bool) (h : K.pop = (P, b)) (vs : List Value) (gk : List Nat) (w : World) (hbig : wtV K.cd ≤ 1048576) (hv : RdVs w K.cd vs gk) :
  Calls Tryz.prog 30 #[.agg vs.toArray] w (RtOut P b w) := by
 refine (zbR K vs gk w hbig hv).mono ?_
 rintro e w' ⟨us, fs, he, hr, _, hb⟩
 rw [h] at he hr
 exact ⟨us, fs, he, hr, hb⟩
theorem za3 (P : Stk) (vs us : List Value) (f g : List Nat) (w : World) (hv : RdVs w P.cd vs f) (hu : RdVs w P.cd us g) :
  Calls Tryz.prog 31 #[.agg vs.toArray, .agg us.toArray] w fun e w' => e = .returned (.bool true) ∧ Below w.heap.size w w' := by
 have h := sameStk_x P P vs us f g w hv hu
 have he : eqV P.cd P.cd = true := by rw [zaO]
 rw [he] at h
 exact h
theorem stk_eta8 (K : Stk) : Stk.mk K.sig K.levels = K := by cases K; rfl
theorem push_law {K P : Stk} {b : Bool} (h : K.push = (P, b)) (hk : K.okK = true) : b = decide (K.levels.length < 4) ∧ (b = false → P = K) := by
 unfold Stk.push at h
 rw [if_pos hk] at h
 by_cases h4 : K.levels.length < 4
 ·rw [if_pos h4] at h
  simp only [Prod.mk.injEq] at h
  exact ⟨by rw [← h.2]; simp [h4], fun e => by rw [← h.2] at e; simp at e⟩
 ·rw [if_neg h4] at h
  simp only [Prod.mk.injEq] at h
  exact ⟨by rw [← h.2]; simp [h4], fun _ => h.1.symm⟩
theorem pop_law {K P : Stk} {b : Bool} (h : K.pop = (P, b)) (hk : K.okK = true) : b = decide (1 < K.levels.length) ∧ (b = false → P = K) := by
 unfold Stk.pop at h
 rw [if_pos hk] at h
 by_cases h4 : K.levels.length < 2
 ·rw [if_pos h4] at h
  simp only [Prod.mk.injEq] at h
  exact ⟨by rw [← h.2]; simp; omega, fun _ => h.1.symm⟩
 ·rw [if_neg h4] at h
  simp only [Prod.mk.injEq] at h
  exact ⟨by rw [← h.2]; simp; omega, fun e => by rw [← h.2] at e; simp at e⟩
end Go.Proofs.YtbfinjiledfpcaaGreat
end
