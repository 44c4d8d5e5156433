/- impl.TSame, of the greater types. -/
import Derived.Test.YtaogaddgfllkpaaSameC
namespace Go.Proofs.Ytaogaddgfllkpaa
open Go Go.RowKit
set_option linter.unusedVariables false
set_option linter.unusedSimpArgs false


set_option maxHeartbeats 1000000 in
theorem sameWy_n (n : Nat) : ∀ (x y : Wy) (vs us : List Value) (f f' : List Nat) (w : World), ndV x.cd ≤ n → RdVs w x.cd vs f → RdVs w y.cd us f' → Calls Try.prog 173 #[.agg vs.toArray, .agg us.toArray] w fun e w' => e = .returned (.bool (eqV x.cd y.cd)) ∧ Below w.heap.size w w' := by
  induction n with
  | zero => intro x y vs us f f' w hn; have h : 0 < ndV x.cd := by rw [Wy.cd_eq]; simp [ndV, ndC]; try omega
            omega
  | succ n ih =>
    intro x y vs us f f' w hn hv hx
    have HK : Hid (∀ k ∈ x.kids, ndV k.cd ≤ n) := fun k hk => by have := Wy.kid_nd hk; omega
    have IH := Lib.hid ih
    clear ih
    obtain ⟨a3, c3, f3, a4, c4, f4, rfl, _, m0, m1, m2, m3, m4⟩ := Wy.open hv
    obtain ⟨a3', c3', f3', a4', c4', f4', rfl, _, m0', m1', m2', m3', m4'⟩ := Wy.open hx
    go_enter Try.func173, Try.ntmps173
    cases tk1 : (x.rule == y.rule)
    · have HF := Lib.hid (Wy.eqv_rule tk1)
      go_wp2_with fail
      go_ret
      exact ⟨retB HF.out.symm, (((Below.refl _ _).alloc (Nat.le_refl _) _).alloc (by simp) _)⟩
    have HT_rule := Lib.hid tk1
    cases tk2 : (x.n == y.n)
    · have HF := Lib.hid (Wy.eqv_n tk2)
      go_wp2_with fail
      go_ret
      exact ⟨retB HF.out.symm, (((Below.refl _ _).alloc (Nat.le_refl _) _).alloc (by simp) _)⟩
    have HT_n := Lib.hid tk2
    go_wp2_with fail
    refine (sameTm_x x.t y.t _ _ _ _ _ (by exact (Tm.close m2 m3).below (((Below.refl _ _).alloc (Nat.le_refl _) _).alloc (by simp) _)) (by exact (Tm.close m2' m3').below (((Below.refl _ _).alloc (Nat.le_refl _) _).alloc (by simp) _))).mono ?_
    rintro e w1 ⟨rfl, hb1⟩
    obtain ⟨hx1, hy1, hz1, hB1⟩ := box2 (w := w) (wr := w1) (cs := #[.int .i64 x.rule, .int .i64 x.n, .string x.t.name, .slice a3 x.t.kids.length c3, .slice a4 x.kids.length c4]) (ds := #[.int .i64 y.rule, .int .i64 y.n, .string y.t.name, .slice a3' y.t.kids.length c3', .slice a4' y.kids.length c4']) (T := 145) (U := 145) (below_size hb1 (by simp))
    cases hq1 : eqV x.t.cd y.t.cd
    · have HF := Lib.hid (Wy.eqv_t hq1)
      clear hq1
      go_wp2_with fail
      go_ret
      exact ⟨retB HF.out.symm, hB1⟩
    have HT_t := Lib.hid hq1
    clear hq1
    go_wp2_with fail
    refine ((equalWy_f x.kids y.kids (fun k hk y' vs us f f' w => IH.out k y' vs us f f' w (HK.out k hk))) _ _ _ _ _ (by exact m4.below hB1) (by exact m4'.below hB1)).mono ?_
    rintro e w2 ⟨rfl, hb2⟩
    have hB2 := hB1.trans (hb2.mono (by omega))
    have hx2 := cells_later hx1 (by omega) hb2
    have hy2 := cells_later hy1 (by omega) hb2
    have hz2 := Nat.le_trans hz1 hb2.size
    clear hx1 hy1
    cases hq2 : eqR (x.kids.map Wy.cd) (y.kids.map Wy.cd)
    · have HF := Lib.hid (Wy.eqv_kids hq2)
      clear hq2
      go_wp2_with fail
      go_ret
      exact ⟨retB HF.out.symm, hB2⟩
    have HT_kids := Lib.hid hq2
    clear hq2
    go_wp2_with fail
    go_ret
    exact ⟨retB (by rw [Wy.eqv, HT_rule.out, HT_n.out, HT_t.out, HT_kids.out]; try rfl), hB2⟩
theorem sameWy_x (x y : Wy) (vs us : List Value) (f f' : List Nat) (w : World) (hv : RdVs w x.cd vs f) (hx : RdVs w y.cd us f') :
    Calls Try.prog 173 #[.agg vs.toArray, .agg us.toArray] w fun e w' => e = .returned (.bool (eqV x.cd y.cd)) ∧ Below w.heap.size w w' := sameWy_n _ x y vs us f f' w (Nat.le_refl _) hv hx
set_option maxHeartbeats 1000000 in
theorem sameCs_n (n : Nat) : ∀ (x y : Cs) (vs us : List Value) (f f' : List Nat) (w : World), ndV x.cd ≤ n → RdVs w x.cd vs f → RdVs w y.cd us f' → Calls Try.prog 104 #[.agg vs.toArray, .agg us.toArray] w fun e w' => e = .returned (.bool (eqV x.cd y.cd)) ∧ Below w.heap.size w w' := by
  induction n with
  | zero => intro x y vs us f f' w hn; have h : 0 < ndV x.cd := by rw [Cs.cd_eq]; simp [ndV, ndC]; try omega
            omega
  | succ n ih =>
    intro x y vs us f f' w hn hv hx
    have HK : Hid (∀ k ∈ x.kids, ndV k.cd ≤ n) := fun k hk => by have := Cs.kid_nd hk; omega
    have IH := Lib.hid ih
    clear ih
    obtain ⟨a5, c5, f5, a6, c6, f6, a7, c7, f7, a9, c9, f9, a11, c11, f11, a12, c12, f12, rfl, _, m0, m1, m2, m3, m4, m5, m6, m7, m8, m9, m10, m11, m12⟩ := Cs.open hv
    obtain ⟨a5', c5', f5', a6', c6', f6', a7', c7', f7', a9', c9', f9', a11', c11', f11', a12', c12', f12', rfl, _, m0', m1', m2', m3', m4', m5', m6', m7', m8', m9', m10', m11', m12'⟩ := Cs.open hx
    go_enter Try.func104, Try.ntmps104
    cases tk1 : (x.kind == y.kind)
    · have HF := Lib.hid (Cs.eqv_kind tk1)
      go_wp2_with fail
      go_ret
      exact ⟨retB HF.out.symm, (((Below.refl _ _).alloc (Nat.le_refl _) _).alloc (by simp) _)⟩
    have HT_kind := Lib.hid tk1
    cases tk2 : (x.n == y.n)
    · have HF := Lib.hid (Cs.eqv_n tk2)
      go_wp2_with fail
      go_ret
      exact ⟨retB HF.out.symm, (((Below.refl _ _).alloc (Nat.le_refl _) _).alloc (by simp) _)⟩
    have HT_n := Lib.hid tk2
    go_wp2_with fail
    refine (sameWy_x x.why y.why _ _ _ _ _ (by exact (Wy.close m2 m3 m4 m5 m6).below (((Below.refl _ _).alloc (Nat.le_refl _) _).alloc (by simp) _)) (by exact (Wy.close m2' m3' m4' m5' m6').below (((Below.refl _ _).alloc (Nat.le_refl _) _).alloc (by simp) _))).mono ?_
    rintro e w1 ⟨rfl, hb1⟩
    obtain ⟨hx1, hy1, hz1, hB1⟩ := box2 (w := w) (wr := w1) (cs := #[.int .i64 x.kind, .int .i64 x.n, .int .i64 x.why.rule, .int .i64 x.why.n, .string x.why.t.name, .slice a5 x.why.t.kids.length c5, .slice a6 x.why.kids.length c6, .slice a7 x.times.length c7, .string x.a.name, .slice a9 x.a.kids.length c9, .string x.b.name, .slice a11 x.b.kids.length c11, .slice a12 x.kids.length c12]) (ds := #[.int .i64 y.kind, .int .i64 y.n, .int .i64 y.why.rule, .int .i64 y.why.n, .string y.why.t.name, .slice a5' y.why.t.kids.length c5', .slice a6' y.why.kids.length c6', .slice a7' y.times.length c7', .string y.a.name, .slice a9' y.a.kids.length c9', .string y.b.name, .slice a11' y.b.kids.length c11', .slice a12' y.kids.length c12']) (T := 148) (U := 148) (below_size hb1 (by simp))
    cases hq1 : eqV x.why.cd y.why.cd
    · have HF := Lib.hid (Cs.eqv_why hq1)
      clear hq1
      go_wp2_with fail
      go_ret
      exact ⟨retB HF.out.symm, hB1⟩
    have HT_why := Lib.hid hq1
    clear hq1
    go_wp2_with fail
    refine (equalInts_x x.times y.times _ _ _ _ _ (by exact m7.below hB1) (by exact m7'.below hB1)).mono ?_
    rintro e w2 ⟨rfl, hb2⟩
    have hB2 := hB1.trans (hb2.mono (by omega))
    have hx2 := cells_later hx1 (by omega) hb2
    have hy2 := cells_later hy1 (by omega) hb2
    have hz2 := Nat.le_trans hz1 hb2.size
    clear hx1 hy1
    cases hq2 : eqR (x.times.map intCd) (y.times.map intCd)
    · have HF := Lib.hid (Cs.eqv_times hq2)
      clear hq2
      go_wp2_with fail
      go_ret
      exact ⟨retB HF.out.symm, hB2⟩
    have HT_times := Lib.hid hq2
    clear hq2
    go_wp2_with fail
    refine (sameTm_x x.a y.a _ _ _ _ _ (by exact (Tm.close m8 m9).below hB2) (by exact (Tm.close m8' m9').below hB2)).mono ?_
    rintro e w3 ⟨rfl, hb3⟩
    have hB3 := hB2.trans (hb3.mono (by omega))
    have hx3 := cells_later hx2 (by omega) hb3
    have hy3 := cells_later hy2 (by omega) hb3
    have hz3 := Nat.le_trans hz2 hb3.size
    clear hx2 hy2
    cases hq3 : eqV x.a.cd y.a.cd
    · have HF := Lib.hid (Cs.eqv_a hq3)
      clear hq3
      go_wp2_with fail
      go_ret
      exact ⟨retB HF.out.symm, hB3⟩
    have HT_a := Lib.hid hq3
    clear hq3
    go_wp2_with fail
    refine (sameTm_x x.b y.b _ _ _ _ _ (by exact (Tm.close m10 m11).below hB3) (by exact (Tm.close m10' m11').below hB3)).mono ?_
    rintro e w4 ⟨rfl, hb4⟩
    have hB4 := hB3.trans (hb4.mono (by omega))
    have hx4 := cells_later hx3 (by omega) hb4
    have hy4 := cells_later hy3 (by omega) hb4
    have hz4 := Nat.le_trans hz3 hb4.size
    clear hx3 hy3
    cases hq4 : eqV x.b.cd y.b.cd
    · have HF := Lib.hid (Cs.eqv_b hq4)
      clear hq4
      go_wp2_with fail
      go_ret
      exact ⟨retB HF.out.symm, hB4⟩
    have HT_b := Lib.hid hq4
    clear hq4
    go_wp2_with fail
    refine ((equalCs_f x.kids y.kids (fun k hk y' vs us f f' w => IH.out k y' vs us f f' w (HK.out k hk))) _ _ _ _ _ (by exact m12.below hB4) (by exact m12'.below hB4)).mono ?_
    rintro e w5 ⟨rfl, hb5⟩
    have hB5 := hB4.trans (hb5.mono (by omega))
    have hx5 := cells_later hx4 (by omega) hb5
    have hy5 := cells_later hy4 (by omega) hb5
    have hz5 := Nat.le_trans hz4 hb5.size
    clear hx4 hy4
    cases hq5 : eqR (x.kids.map Cs.cd) (y.kids.map Cs.cd)
    · have HF := Lib.hid (Cs.eqv_kids hq5)
      clear hq5
      go_wp2_with fail
      go_ret
      exact ⟨retB HF.out.symm, hB5⟩
    have HT_kids := Lib.hid hq5
    clear hq5
    go_wp2_with fail
    go_ret
    exact ⟨retB (by rw [Cs.eqv, HT_kind.out, HT_n.out, HT_why.out, HT_times.out, HT_a.out, HT_b.out, HT_kids.out]; try rfl), hB5⟩
theorem sameCs_x (x y : Cs) (vs us : List Value) (f f' : List Nat) (w : World) (hv : RdVs w x.cd vs f) (hx : RdVs w y.cd us f') :
    Calls Try.prog 104 #[.agg vs.toArray, .agg us.toArray] w fun e w' => e = .returned (.bool (eqV x.cd y.cd)) ∧ Below w.heap.size w w' := sameCs_n _ x y vs us f f' w (Nat.le_refl _) hv hx
set_option maxHeartbeats 1000000 in
theorem sameFm_n (n : Nat) : ∀ (x y : Fm) (vs us : List Value) (f f' : List Nat) (w : World), ndV x.cd ≤ n → RdVs w x.cd vs f → RdVs w y.cd us f' → Calls Try.prog 116 #[.agg vs.toArray, .agg us.toArray] w fun e w' => e = .returned (.bool (eqV x.cd y.cd)) ∧ Below w.heap.size w w' := by
  induction n with
  | zero => intro x y vs us f f' w hn; have h : 0 < ndV x.cd := by rw [Fm.cd_eq]; simp [ndV, ndC]; try omega
            omega
  | succ n ih =>
    intro x y vs us f f' w hn hv hx
    have HK : Hid (∀ k ∈ x.kids, ndV k.cd ≤ n) := fun k hk => by have := Fm.kid_nd hk; omega
    have IH := Lib.hid ih
    clear ih
    obtain ⟨a3, c3, f3, a5, c5, f5, a6, c6, f6, a7, c7, f7, a11, c11, f11, rfl, _, m0, m1, m2, m3, m4, m5, m6, m7, m8, m9⟩ := Fm.open hv
    obtain ⟨a3', c3', f3', a5', c5', f5', a6', c6', f6', a7', c7', f7', a11', c11', f11', rfl, _, m0', m1', m2', m3', m4', m5', m6', m7', m8', m9'⟩ := Fm.open hx
    go_enter Try.func116, Try.ntmps116
    cases tk1 : (x.kind == y.kind)
    · have HF := Lib.hid (Fm.eqv_kind tk1)
      go_wp2_with fail
      go_ret
      exact ⟨retB HF.out.symm, (((Below.refl _ _).alloc (Nat.le_refl _) _).alloc (by simp) _)⟩
    have HT_kind := Lib.hid tk1
    cases tk2 : (x.lit.no == y.lit.no)
    · have HF := Lib.hid (Fm.eqv_lit_no tk2)
      go_wp2_with fail
      go_ret
      exact ⟨retB HF.out.symm, (((Below.refl _ _).alloc (Nat.le_refl _) _).alloc (by simp) _)⟩
    have HT_lit_no := Lib.hid tk2
    go_wp2_with fail
    refine (sameAtm_x x.lit.atom y.lit.atom _ _ _ _ _ (by exact (Atm.close m1 m2 m3 m4 m5 m6 m7 m8).below (((Below.refl _ _).alloc (Nat.le_refl _) _).alloc (by simp) _)) (by exact (Atm.close m1' m2' m3' m4' m5' m6' m7' m8').below (((Below.refl _ _).alloc (Nat.le_refl _) _).alloc (by simp) _))).mono ?_
    rintro e w1 ⟨rfl, hb1⟩
    obtain ⟨hx1, hy1, hz1, hB1⟩ := box2 (w := w) (wr := w1) (cs := #[.int .i64 x.kind, .int .i64 x.lit.atom.kind, .string x.lit.atom.a.name, .slice a3 x.lit.atom.a.kids.length c3, .string x.lit.atom.b.name, .slice a5 x.lit.atom.b.kids.length c5, .slice a6 x.lit.atom.nums.length c6, .slice a7 x.lit.atom.times.length c7, .int .i64 x.lit.atom.bound, .bool x.lit.atom.strict, .bool x.lit.no, .slice a11 x.kids.length c11]) (ds := #[.int .i64 y.kind, .int .i64 y.lit.atom.kind, .string y.lit.atom.a.name, .slice a3' y.lit.atom.a.kids.length c3', .string y.lit.atom.b.name, .slice a5' y.lit.atom.b.kids.length c5', .slice a6' y.lit.atom.nums.length c6', .slice a7' y.lit.atom.times.length c7', .int .i64 y.lit.atom.bound, .bool y.lit.atom.strict, .bool y.lit.no, .slice a11' y.kids.length c11']) (T := 105) (U := 105) (below_size hb1 (by simp))
    cases hq1 : eqV x.lit.atom.cd y.lit.atom.cd
    · have HF := Lib.hid (Fm.eqv_lit_atom hq1)
      clear hq1
      go_wp2_with fail
      go_ret
      exact ⟨retB HF.out.symm, hB1⟩
    have HT_lit_atom := Lib.hid hq1
    clear hq1
    go_wp2_with fail
    refine ((equalFm_f x.kids y.kids (fun k hk y' vs us f f' w => IH.out k y' vs us f f' w (HK.out k hk))) _ _ _ _ _ (by exact m9.below hB1) (by exact m9'.below hB1)).mono ?_
    rintro e w2 ⟨rfl, hb2⟩
    have hB2 := hB1.trans (hb2.mono (by omega))
    have hx2 := cells_later hx1 (by omega) hb2
    have hy2 := cells_later hy1 (by omega) hb2
    have hz2 := Nat.le_trans hz1 hb2.size
    clear hx1 hy1
    cases hq2 : eqR (x.kids.map Fm.cd) (y.kids.map Fm.cd)
    · have HF := Lib.hid (Fm.eqv_kids hq2)
      clear hq2
      go_wp2_with fail
      go_ret
      exact ⟨retB HF.out.symm, hB2⟩
    have HT_kids := Lib.hid hq2
    clear hq2
    go_wp2_with fail
    go_ret
    exact ⟨retB (by rw [Fm.eqv, HT_kind.out, HT_lit_no.out, HT_lit_atom.out, HT_kids.out]; try rfl), hB2⟩
theorem sameFm_x (x y : Fm) (vs us : List Value) (f f' : List Nat) (w : World) (hv : RdVs w x.cd vs f) (hx : RdVs w y.cd us f') :
    Calls Try.prog 116 #[.agg vs.toArray, .agg us.toArray] w fun e w' => e = .returned (.bool (eqV x.cd y.cd)) ∧ Below w.heap.size w w' := sameFm_n _ x y vs us f f' w (Nat.le_refl _) hv hx
set_option maxHeartbeats 1000000 in
theorem sameLm_x (x y : Lm) (vs us : List Value) (f f' : List Nat) (w : World) (hv : RdVs w x.cd vs f) (hx : RdVs w y.cd us f') :
    Calls Try.prog 102 #[.agg vs.toArray, .agg us.toArray] w fun e w' => e = .returned (.bool (eqV x.cd y.cd)) ∧ Below w.heap.size w w' := by
  obtain ⟨a0, c0, f0, a6, c6, f6, a7, c7, f7, a8, c8, f8, a10, c10, f10, a12, c12, f12, a13, c13, f13, rfl, _, m0, m1, m2, m3, m4, m5, m6, m7, m8, m9, m10, m11, m12, m13⟩ := Lm.open hv
  obtain ⟨a0', c0', f0', a6', c6', f6', a7', c7', f7', a8', c8', f8', a10', c10', f10', a12', c12', f12', a13', c13', f13', rfl, _, m0', m1', m2', m3', m4', m5', m6', m7', m8', m9', m10', m11', m12', m13'⟩ := Lm.open hx
  go_enter Try.func102, Try.ntmps102
  go_wp2_with fail
  refine (equalInts_x x.marks y.marks _ _ _ _ _ (by exact m0.below (((Below.refl _ _).alloc (Nat.le_refl _) _).alloc (by simp) _)) (by exact m0'.below (((Below.refl _ _).alloc (Nat.le_refl _) _).alloc (by simp) _))).mono ?_
  rintro e w1 ⟨rfl, hb1⟩
  obtain ⟨hx1, hy1, hz1, hB1⟩ := box2 (w := w) (wr := w1) (cs := #[.slice a0 x.marks.length c0, .int .i64 x.case.kind, .int .i64 x.case.n, .int .i64 x.case.why.rule, .int .i64 x.case.why.n, .string x.case.why.t.name, .slice a6 x.case.why.t.kids.length c6, .slice a7 x.case.why.kids.length c7, .slice a8 x.case.times.length c8, .string x.case.a.name, .slice a10 x.case.a.kids.length c10, .string x.case.b.name, .slice a12 x.case.b.kids.length c12, .slice a13 x.case.kids.length c13]) (ds := #[.slice a0' y.marks.length c0', .int .i64 y.case.kind, .int .i64 y.case.n, .int .i64 y.case.why.rule, .int .i64 y.case.why.n, .string y.case.why.t.name, .slice a6' y.case.why.t.kids.length c6', .slice a7' y.case.why.kids.length c7', .slice a8' y.case.times.length c8', .string y.case.a.name, .slice a10' y.case.a.kids.length c10', .string y.case.b.name, .slice a12' y.case.b.kids.length c12', .slice a13' y.case.kids.length c13']) (T := 150) (U := 150) (below_size hb1 (by simp))
  cases hq1 : eqR (x.marks.map intCd) (y.marks.map intCd)
  · have HF := Lib.hid (Lm.eqv_marks hq1)
    clear hq1
    go_wp2_with fail
    go_ret
    exact ⟨retB HF.out.symm, hB1⟩
  have HT_marks := Lib.hid hq1
  clear hq1
  go_wp2_with fail
  refine (sameCs_x x.case y.case _ _ _ _ _ (by exact (Cs.close m1 m2 m3 m4 m5 m6 m7 m8 m9 m10 m11 m12 m13).below hB1) (by exact (Cs.close m1' m2' m3' m4' m5' m6' m7' m8' m9' m10' m11' m12' m13').below hB1)).mono ?_
  rintro e w2 ⟨rfl, hb2⟩
  have hB2 := hB1.trans (hb2.mono (by omega))
  have hx2 := cells_later hx1 (by omega) hb2
  have hy2 := cells_later hy1 (by omega) hb2
  have hz2 := Nat.le_trans hz1 hb2.size
  clear hx1 hy1
  cases hq2 : eqV x.case.cd y.case.cd
  · have HF := Lib.hid (Lm.eqv_case hq2)
    clear hq2
    go_wp2_with fail
    go_ret
    exact ⟨retB HF.out.symm, hB2⟩
  have HT_case := Lib.hid hq2
  clear hq2
  go_wp2_with fail
  go_ret
  exact ⟨retB (by rw [Lm.eqv, HT_marks.out, HT_case.out]; try rfl), hB2⟩
theorem equalLms_x (xs ys : List Lm) (v u : Value) (f f' : List Nat) (w : World) (hv : Rd w (.sl (xs.map Lm.cd)) v f) (hx : Rd w (.sl (ys.map Lm.cd)) u f') : Calls Try.prog 101 #[v, u, .func (.func 102) #[] #[]] w fun e w' => e = .returned (.bool (eqR (xs.map Lm.cd) (ys.map Lm.cd))) ∧ Below w.heap.size w w' := equalLm_f xs ys (fun x _ y vs us f f' w => sameLm_x x y vs us f f' w) v u f f' w hv hx
theorem eqV_ints (x y : List Int) : eqV (intsCd x) (intsCd y) = eqR (x.map intCd) (y.map intCd) := by simp only [intsCd, eqV_sl]
theorem eqV_fms (x y : List Fm) : eqV (fmsCd x) (fmsCd y) = eqR (x.map Fm.cd) (y.map Fm.cd) := by simp only [fmsCd, eqV_sl]
theorem equalIntss_x (xs ys : List (List Int)) (v u : Value) (f f' : List Nat) (w : World) (hv : Rd w (.sl (xs.map intsCd)) v f) (hx : Rd w (.sl (ys.map intsCd)) u f') : Calls Try.prog 105 #[v, u, .func (.func 103) #[] #[]] w fun e w' => e = .returned (.bool (eqR (xs.map intsCd) (ys.map intsCd))) ∧ Below w.heap.size w w' := equalInts_f xs ys (fun x _ y v u f f' w hv hx => by rw [eqV_ints]; exact equalInts_x x y v u f f' w hv hx) v u f f' w hv hx
set_option maxHeartbeats 1000000 in
theorem samePp_x (x y : Pp) (vs us : List Value) (f f' : List Nat) (w : World) (hv : RdVs w x.cd vs f) (hx : RdVs w y.cd us f') :
    Calls Try.prog 36 #[.agg vs.toArray, .agg us.toArray] w fun e w' => e = .returned (.bool (eqV x.cd y.cd)) ∧ Below w.heap.size w w' := by
  obtain ⟨a0, c0, f0, a1, c1, f1, rfl, _, m0, m1⟩ := Pp.open hv
  obtain ⟨a0', c0', f0', a1', c1', f1', rfl, _, m0', m1'⟩ := Pp.open hx
  go_enter Try.func36, Try.ntmps36
  go_wp2_with fail
  refine (equalLms_x x.lemmas y.lemmas _ _ _ _ _ (by exact m0.below (((Below.refl _ _).alloc (Nat.le_refl _) _).alloc (by simp) _)) (by exact m0'.below (((Below.refl _ _).alloc (Nat.le_refl _) _).alloc (by simp) _))).mono ?_
  rintro e w1 ⟨rfl, hb1⟩
  obtain ⟨hx1, hy1, hz1, hB1⟩ := box2 (w := w) (wr := w1) (cs := #[.slice a0 x.lemmas.length c0, .slice a1 x.log.length c1]) (ds := #[.slice a0' y.lemmas.length c0', .slice a1' y.log.length c1']) (T := 64) (U := 64) (below_size hb1 (by simp))
  cases hq1 : eqR (x.lemmas.map Lm.cd) (y.lemmas.map Lm.cd)
  · have HF := Lib.hid (Pp.eqv_lemmas hq1)
    clear hq1
    go_wp2_with fail
    go_ret
    exact ⟨retB HF.out.symm, hB1⟩
  have HT_lemmas := Lib.hid hq1
  clear hq1
  go_wp2_with fail
  refine (equalIntss_x x.log y.log _ _ _ _ _ (by exact m1.below hB1) (by exact m1'.below hB1)).mono ?_
  rintro e w2 ⟨rfl, hb2⟩
  have hB2 := hB1.trans (hb2.mono (by omega))
  have hx2 := cells_later hx1 (by omega) hb2
  have hy2 := cells_later hy1 (by omega) hb2
  have hz2 := Nat.le_trans hz1 hb2.size
  clear hx1 hy1
  cases hq2 : eqR (x.log.map intsCd) (y.log.map intsCd)
  · have HF := Lib.hid (Pp.eqv_log hq2)
    clear hq2
    go_wp2_with fail
    go_ret
    exact ⟨retB HF.out.symm, hB2⟩
  have HT_log := Lib.hid hq2
  clear hq2
  go_wp2_with fail
  go_ret
  exact ⟨retB (by rw [Pp.eqv, HT_lemmas.out, HT_log.out]; try rfl), hB2⟩
theorem sameFms_x (x y : List Fm) (v u : Value) (f f' : List Nat) (w : World) (hv : Rd w (.sl (x.map Fm.cd)) v f) (hx : Rd w (.sl (y.map Fm.cd)) u f') :
    Calls Try.prog 114 #[v, u] w fun e w' => e = .returned (.bool (eqV (fmsCd x) (fmsCd y))) ∧ Below w.heap.size w w' := by
  obtain ⟨a, c, rfl, hc1, hc2⟩ := rd_sl_inv hv
  obtain ⟨a', c', rfl, hc1', hc2'⟩ := rd_sl_inv hx
  rw [eqV_fms]
  go_enter Try.func114, Try.ntmps114
  go_wp2_with fail
  refine (equalFm_f x y (fun x _ y vs us f f' w => sameFm_x x y vs us f f' w) _ _ _ _ _ hv hx).mono ?_
  rintro e w1 ⟨rfl, hb1⟩
  go_wp2_with fail
  go_ret
  exact ⟨rfl, hb1⟩
theorem equalFmss_x (xs ys : List (List Fm)) (v u : Value) (f f' : List Nat) (w : World) (hv : Rd w (.sl (xs.map fmsCd)) v f) (hx : Rd w (.sl (ys.map fmsCd)) u f') : Calls Try.prog 113 #[v, u, .func (.func 114) #[] #[]] w fun e w' => e = .returned (.bool (eqR (xs.map fmsCd) (ys.map fmsCd))) ∧ Below w.heap.size w w' := equalFms_f xs ys (fun x _ y v u f f' w hv hx => sameFms_x x y v u f f' w hv hx) v u f f' w hv hx
set_option maxHeartbeats 1000000 in
theorem sameStk_x (x y : Stk) (vs us : List Value) (f f' : List Nat) (w : World) (hv : RdVs w x.cd vs f) (hx : RdVs w y.cd us f') :
    Calls Try.prog 41 #[.agg vs.toArray, .agg us.toArray] w fun e w' => e = .returned (.bool (eqV x.cd y.cd)) ∧ Below w.heap.size w w' := by
  obtain ⟨a0, c0, f0, a1, c1, f1, rfl, _, m0, m1⟩ := Stk.open hv
  obtain ⟨a0', c0', f0', a1', c1', f1', rfl, _, m0', m1'⟩ := Stk.open hx
  go_enter Try.func41, Try.ntmps41
  go_wp2_with fail
  refine (sameSg_x x.sig y.sig _ _ _ _ _ (by exact (Sg.close m0).below (((Below.refl _ _).alloc (Nat.le_refl _) _).alloc (by simp) _)) (by exact (Sg.close m0').below (((Below.refl _ _).alloc (Nat.le_refl _) _).alloc (by simp) _))).mono ?_
  rintro e w1 ⟨rfl, hb1⟩
  obtain ⟨hx1, hy1, hz1, hB1⟩ := box2 (w := w) (wr := w1) (cs := #[.slice a0 x.sig.syms.length c0, .slice a1 x.levels.length c1]) (ds := #[.slice a0' y.sig.syms.length c0', .slice a1' y.levels.length c1']) (T := 80) (U := 80) (below_size hb1 (by simp))
  cases hq1 : eqV x.sig.cd y.sig.cd
  · have HF := Lib.hid (Stk.eqv_sig hq1)
    clear hq1
    go_wp2_with fail
    go_ret
    exact ⟨retB HF.out.symm, hB1⟩
  have HT_sig := Lib.hid hq1
  clear hq1
  go_wp2_with fail
  refine (equalFmss_x x.levels y.levels _ _ _ _ _ (by exact m1.below hB1) (by exact m1'.below hB1)).mono ?_
  rintro e w2 ⟨rfl, hb2⟩
  have hB2 := hB1.trans (hb2.mono (by omega))
  have hx2 := cells_later hx1 (by omega) hb2
  have hy2 := cells_later hy1 (by omega) hb2
  have hz2 := Nat.le_trans hz1 hb2.size
  clear hx1 hy1
  cases hq2 : eqR (x.levels.map fmsCd) (y.levels.map fmsCd)
  · have HF := Lib.hid (Stk.eqv_levels hq2)
    clear hq2
    go_wp2_with fail
    go_ret
    exact ⟨retB HF.out.symm, hB2⟩
  have HT_levels := Lib.hid hq2
  clear hq2
  go_wp2_with fail
  go_ret
  exact ⟨retB (by rw [Stk.eqv, HT_sig.out, HT_levels.out]; try rfl), hB2⟩
set_option maxHeartbeats 1000000 in
theorem sameWyS_n (n : Nat) : ∀ (x y : Wy) (vs us : List Value) (f f' : List Nat) (w : World), ndV x.cd ≤ n → RdVs w x.cd vs f → RdVs w y.cd us f' → Calls Try.prog 170 #[.agg vs.toArray, .agg us.toArray] w fun e w' => e = .returned (.bool (eqV x.cd y.cd)) ∧ Below w.heap.size w w' := by
  induction n with
  | zero => intro x y vs us f f' w hn; have h : 0 < ndV x.cd := by rw [Wy.cd_eq]; simp [ndV, ndC]; try omega
            omega
  | succ n ih =>
    intro x y vs us f f' w hn hv hx
    have HK : Hid (∀ k ∈ x.kids, ndV k.cd ≤ n) := fun k hk => by have := Wy.kid_nd hk; omega
    have IH := Lib.hid ih
    clear ih
    obtain ⟨a3, c3, f3, a4, c4, f4, rfl, _, m0, m1, m2, m3, m4⟩ := Wy.open hv
    obtain ⟨a3', c3', f3', a4', c4', f4', rfl, _, m0', m1', m2', m3', m4'⟩ := Wy.open hx
    go_enter Try.func170, Try.ntmps170
    cases tk1 : (x.rule == y.rule)
    · have HF := Lib.hid (Wy.eqv_rule tk1)
      have tn : (x.rule != y.rule) = true := by rw [bne, tk1]; rfl
      go_wp2_with fail
      go_ret
      exact ⟨retB HF.out.symm, (((Below.refl _ _).alloc (Nat.le_refl _) _).alloc (by simp) _)⟩
    have HT_rule := Lib.hid tk1
    have tn1 : (x.rule != y.rule) = false := by rw [bne, tk1]; rfl
    cases tk2 : (x.n == y.n)
    · have HF := Lib.hid (Wy.eqv_n tk2)
      have tn : (x.n != y.n) = true := by rw [bne, tk2]; rfl
      go_wp2_with fail
      go_ret
      exact ⟨retB HF.out.symm, (((Below.refl _ _).alloc (Nat.le_refl _) _).alloc (by simp) _)⟩
    have HT_n := Lib.hid tk2
    have tn2 : (x.n != y.n) = false := by rw [bne, tk2]; rfl
    go_wp2_with fail
    refine (sameTmS_x x.t y.t _ _ _ _ _ (by exact (Tm.close m2 m3).below (((Below.refl _ _).alloc (Nat.le_refl _) _).alloc (by simp) _)) (by exact (Tm.close m2' m3').below (((Below.refl _ _).alloc (Nat.le_refl _) _).alloc (by simp) _))).mono ?_
    rintro e w1 ⟨rfl, hb1⟩
    obtain ⟨hx1, hy1, hz1, hB1⟩ := box2 (w := w) (wr := w1) (cs := #[.int .i64 x.rule, .int .i64 x.n, .string x.t.name, .slice a3 x.t.kids.length c3, .slice a4 x.kids.length c4]) (ds := #[.int .i64 y.rule, .int .i64 y.n, .string y.t.name, .slice a3' y.t.kids.length c3', .slice a4' y.kids.length c4']) (T := 145) (U := 145) (below_size hb1 (by simp))
    cases hq1 : eqV x.t.cd y.t.cd
    · have HF := Lib.hid (Wy.eqv_t hq1)
      clear hq1
      go_wp2_with fail
      go_ret
      exact ⟨retB HF.out.symm, hB1⟩
    have HT_t := Lib.hid hq1
    clear hq1
    by_cases tk3 : x.kids.length = y.kids.length
    rotate_left
    · have tf : ((x.kids.length : Int) != (y.kids.length : Int)) = true := by rw [bne_iff_ne]; omega
      have HF := Lib.hid (Wy.eqv_kids (x := x) (y := y) (eqR_len tk3))
      clear tk3
      go_wp2_with fail
      go_ret
      exact ⟨retB HF.out.symm, hB1⟩
    have tq3 : ((x.kids.length : Int) != (y.kids.length : Int)) = false := by rw [tk3]; simp
    have tl3 : x.kids.length ≤ y.kids.length := by omega
    have tm3 : y.kids.length ≤ x.kids.length := by omega
    clear tk3
    go_wp2_with fail
    go_loopw [5] (fun i wq => ∃ k : Nat, k ≤ x.kids.length ∧ i = .int .i64 k ∧ Hid (Alike Wy.cd x.kids y.kids k) ∧ Below w1.heap.size w1 wq) (fun i _ => x.kids.length - (intOf i).toNat)
    case atStart => exact ⟨0, Nat.zero_le _, rfl, Lib.hid Alike.zero, Below.refl _ _⟩
    case round =>
      obtain ⟨k1, hkl1, rfl, hall1, hL1⟩ := hrel
      have hBL1 := hB1.trans (hL1.mono (by omega))
      have hxL1 := cells_later hx1 (by omega) hL1
      have hyL1 := cells_later hy1 (by omega) hL1
      have hzL1 := Nat.le_trans hz1 hL1.size
      clear hx1 hy1
      have cx := hxL1 4
      have cy := hyL1 4
      simp only [List.getElem?_toArray, List.getElem?_cons_zero, List.getElem?_cons_succ] at cx cy
      have hlen1 := rd_len m4
      by_cases hlt : k1 < x.kids.length
      · obtain ⟨b, off, rfl, hbs, _⟩ := rd_addr m4 (by omega)
        obtain ⟨b', off', rfl, hbs', _⟩ := rd_addr m4' (by omega)
        have hlt' : k1 < y.kids.length := by omega
        obtain ⟨ea3, ec3, ef3, ea4, ec4, ef4, d0, d1, d2, d3, d4, em0, em1, em2, em3, em4, _⟩ := Wy.at (m4.below hBL1) hlt
        obtain ⟨ea3', ec3', ef3', ea4', ec4', ef4', d0', d1', d2', d3', d4', em0', em1', em2', em3', em4', _⟩ := Wy.at (m4'.below hBL1) hlt'
        cases he : eqV (Wy.cd x.kids[k1]) (Wy.cd y.kids[k1])
        · have HE := Lib.hid he
          go_wp2_with fail
          have qd0 := cell_regrown d0
          have qd1 := cell_regrown d1
          have qd2 := cell_regrown d2
          have qd3 := cell_regrown d3
          have qd4 := cell_regrown d4
          have qd0' := cell_regrown d0'
          have qd1' := cell_regrown d1'
          have qd2' := cell_regrown d2'
          have qd3' := cell_regrown d3'
          have qd4' := cell_regrown d4'
          have qcx := cell_regrown cx
          have qcy := cell_regrown cy
          refine wp_region_quiet_below (by kernel_rfl) (by kernel_rfl) ?_
          repeat (quiet_step (refine Calls.regrown_of (IH.out x.kids[k1] y.kids[k1] _ _ _ _ _ (HK.out _ (List.getElem_mem hlt)) ((Wy.close em0 em1 em2 em3 em4).below (below_regrown _ _ _)) ((Wy.close em0' em1' em2' em3' em4').below (below_regrown _ _ _)))))
          refine wpQuiet_nil ?_
          intro wq0 hwq
          obtain ⟨⟨dq, osq⟩, hwq⟩ := hwq
          have hbq0 : Below wr.heap.size wr wq0 := hwq ▸ below_regrown wr dq osq
          clear hwq qcx qcy qd0 qd1 qd2 qd3 qd4 qd0' qd1' qd2' qd3' qd4'
          try rw [he]
          go_wp2_with fail
          go_ret
          exact ⟨retB (Wy.eqv_kids (unlike_at hlt hlt' HE.out)).symm, hBL1.trans (hbq0.mono (by omega))⟩
        · have HE := Lib.hid he
          go_wp2_with fail
          have qd0 := cell_regrown d0
          have qd1 := cell_regrown d1
          have qd2 := cell_regrown d2
          have qd3 := cell_regrown d3
          have qd4 := cell_regrown d4
          have qd0' := cell_regrown d0'
          have qd1' := cell_regrown d1'
          have qd2' := cell_regrown d2'
          have qd3' := cell_regrown d3'
          have qd4' := cell_regrown d4'
          have qcx := cell_regrown cx
          have qcy := cell_regrown cy
          refine wp_region_quiet_below (by kernel_rfl) (by kernel_rfl) ?_
          repeat (quiet_step (refine Calls.regrown_of (IH.out x.kids[k1] y.kids[k1] _ _ _ _ _ (HK.out _ (List.getElem_mem hlt)) ((Wy.close em0 em1 em2 em3 em4).below (below_regrown _ _ _)) ((Wy.close em0' em1' em2' em3' em4').below (below_regrown _ _ _)))))
          refine wpQuiet_nil ?_
          intro wq0 hwq
          obtain ⟨⟨dq, osq⟩, hwq⟩ := hwq
          have hbq0 : Below wr.heap.size wr wq0 := hwq ▸ below_regrown wr dq osq
          clear hwq qcx qcy qd0 qd1 qd2 qd3 qd4 qd0' qd1' qd2' qd3' qd4'
          go_wp2_with fail
          go_roundw
          case rel => exact ⟨k1 + 1, by omega, by go_num, hall1.out.succ hlt hlt' HE.out, hL1.trans (hbq0.mono (by have := hL1.size; omega))⟩
          case measure => simp [intOf]; omega
      have HT_kids := Lib.hid (hall1.out.all (by omega) (by omega))
      clear cx cy
      go_wp2_with fail
      go_ret
      exact ⟨retB (by rw [Wy.eqv, HT_rule.out, HT_n.out, HT_t.out, HT_kids.out]; rfl), hBL1⟩
theorem sameWyS_x (x y : Wy) (vs us : List Value) (f f' : List Nat) (w : World) (hv : RdVs w x.cd vs f) (hx : RdVs w y.cd us f') :
    Calls Try.prog 170 #[.agg vs.toArray, .agg us.toArray] w fun e w' => e = .returned (.bool (eqV x.cd y.cd)) ∧ Below w.heap.size w w' := sameWyS_n _ x y vs us f f' w (Nat.le_refl _) hv hx
set_option maxHeartbeats 1000000 in
theorem sameCsS_n (n : Nat) : ∀ (x y : Cs) (vs us : List Value) (f f' : List Nat) (w : World), ndV x.cd ≤ n → RdVs w x.cd vs f → RdVs w y.cd us f' → Calls Try.prog 98 #[.agg vs.toArray, .agg us.toArray] w fun e w' => e = .returned (.bool (eqV x.cd y.cd)) ∧ Below w.heap.size w w' := by
  induction n with
  | zero => intro x y vs us f f' w hn; have h : 0 < ndV x.cd := by rw [Cs.cd_eq]; simp [ndV, ndC]; try omega
            omega
  | succ n ih =>
    intro x y vs us f f' w hn hv hx
    have HK : Hid (∀ k ∈ x.kids, ndV k.cd ≤ n) := fun k hk => by have := Cs.kid_nd hk; omega
    have IH := Lib.hid ih
    clear ih
    obtain ⟨a5, c5, f5, a6, c6, f6, a7, c7, f7, a9, c9, f9, a11, c11, f11, a12, c12, f12, rfl, _, m0, m1, m2, m3, m4, m5, m6, m7, m8, m9, m10, m11, m12⟩ := Cs.open hv
    obtain ⟨a5', c5', f5', a6', c6', f6', a7', c7', f7', a9', c9', f9', a11', c11', f11', a12', c12', f12', rfl, _, m0', m1', m2', m3', m4', m5', m6', m7', m8', m9', m10', m11', m12'⟩ := Cs.open hx
    go_enter Try.func98, Try.ntmps98
    cases tk1 : (x.kind == y.kind)
    · have HF := Lib.hid (Cs.eqv_kind tk1)
      have tn : (x.kind != y.kind) = true := by rw [bne, tk1]; rfl
      go_wp2_with fail
      go_ret
      exact ⟨retB HF.out.symm, (((Below.refl _ _).alloc (Nat.le_refl _) _).alloc (by simp) _)⟩
    have HT_kind := Lib.hid tk1
    have tn1 : (x.kind != y.kind) = false := by rw [bne, tk1]; rfl
    cases tk2 : (x.n == y.n)
    · have HF := Lib.hid (Cs.eqv_n tk2)
      have tn : (x.n != y.n) = true := by rw [bne, tk2]; rfl
      go_wp2_with fail
      go_ret
      exact ⟨retB HF.out.symm, (((Below.refl _ _).alloc (Nat.le_refl _) _).alloc (by simp) _)⟩
    have HT_n := Lib.hid tk2
    have tn2 : (x.n != y.n) = false := by rw [bne, tk2]; rfl
    go_wp2_with fail
    refine (sameWyS_x x.why y.why _ _ _ _ _ (by exact (Wy.close m2 m3 m4 m5 m6).below (((Below.refl _ _).alloc (Nat.le_refl _) _).alloc (by simp) _)) (by exact (Wy.close m2' m3' m4' m5' m6').below (((Below.refl _ _).alloc (Nat.le_refl _) _).alloc (by simp) _))).mono ?_
    rintro e w1 ⟨rfl, hb1⟩
    obtain ⟨hx1, hy1, hz1, hB1⟩ := box2 (w := w) (wr := w1) (cs := #[.int .i64 x.kind, .int .i64 x.n, .int .i64 x.why.rule, .int .i64 x.why.n, .string x.why.t.name, .slice a5 x.why.t.kids.length c5, .slice a6 x.why.kids.length c6, .slice a7 x.times.length c7, .string x.a.name, .slice a9 x.a.kids.length c9, .string x.b.name, .slice a11 x.b.kids.length c11, .slice a12 x.kids.length c12]) (ds := #[.int .i64 y.kind, .int .i64 y.n, .int .i64 y.why.rule, .int .i64 y.why.n, .string y.why.t.name, .slice a5' y.why.t.kids.length c5', .slice a6' y.why.kids.length c6', .slice a7' y.times.length c7', .string y.a.name, .slice a9' y.a.kids.length c9', .string y.b.name, .slice a11' y.b.kids.length c11', .slice a12' y.kids.length c12']) (T := 148) (U := 148) (below_size hb1 (by simp))
    cases hq1 : eqV x.why.cd y.why.cd
    · have HF := Lib.hid (Cs.eqv_why hq1)
      clear hq1
      go_wp2_with fail
      go_ret
      exact ⟨retB HF.out.symm, hB1⟩
    have HT_why := Lib.hid hq1
    clear hq1
    go_wp2_with fail
    refine (l5Ints_x x.times y.times _ _ _ _ _ (by exact m7.below hB1) (by exact m7'.below hB1)).mono ?_
    rintro e w2 ⟨rfl, hb2⟩
    have hB2 := hB1.trans (hb2.mono (by omega))
    have hx2 := cells_later hx1 (by omega) hb2
    have hy2 := cells_later hy1 (by omega) hb2
    have hz2 := Nat.le_trans hz1 hb2.size
    clear hx1 hy1
    cases hq2 : eqR (x.times.map intCd) (y.times.map intCd)
    · have HF := Lib.hid (Cs.eqv_times hq2)
      clear hq2
      go_wp2_with fail
      go_ret
      exact ⟨retB HF.out.symm, hB2⟩
    have HT_times := Lib.hid hq2
    clear hq2
    go_wp2_with fail
    refine (sameTmS_x x.a y.a _ _ _ _ _ (by exact (Tm.close m8 m9).below hB2) (by exact (Tm.close m8' m9').below hB2)).mono ?_
    rintro e w3 ⟨rfl, hb3⟩
    have hB3 := hB2.trans (hb3.mono (by omega))
    have hx3 := cells_later hx2 (by omega) hb3
    have hy3 := cells_later hy2 (by omega) hb3
    have hz3 := Nat.le_trans hz2 hb3.size
    clear hx2 hy2
    cases hq3 : eqV x.a.cd y.a.cd
    · have HF := Lib.hid (Cs.eqv_a hq3)
      clear hq3
      go_wp2_with fail
      go_ret
      exact ⟨retB HF.out.symm, hB3⟩
    have HT_a := Lib.hid hq3
    clear hq3
    go_wp2_with fail
    refine (sameTmS_x x.b y.b _ _ _ _ _ (by exact (Tm.close m10 m11).below hB3) (by exact (Tm.close m10' m11').below hB3)).mono ?_
    rintro e w4 ⟨rfl, hb4⟩
    have hB4 := hB3.trans (hb4.mono (by omega))
    have hx4 := cells_later hx3 (by omega) hb4
    have hy4 := cells_later hy3 (by omega) hb4
    have hz4 := Nat.le_trans hz3 hb4.size
    clear hx3 hy3
    cases hq4 : eqV x.b.cd y.b.cd
    · have HF := Lib.hid (Cs.eqv_b hq4)
      clear hq4
      go_wp2_with fail
      go_ret
      exact ⟨retB HF.out.symm, hB4⟩
    have HT_b := Lib.hid hq4
    clear hq4
    by_cases tk3 : x.kids.length = y.kids.length
    rotate_left
    · have tf : ((x.kids.length : Int) != (y.kids.length : Int)) = true := by rw [bne_iff_ne]; omega
      have HF := Lib.hid (Cs.eqv_kids (x := x) (y := y) (eqR_len tk3))
      clear tk3
      go_wp2_with fail
      go_ret
      exact ⟨retB HF.out.symm, hB4⟩
    have tq3 : ((x.kids.length : Int) != (y.kids.length : Int)) = false := by rw [tk3]; simp
    have tl3 : x.kids.length ≤ y.kids.length := by omega
    have tm3 : y.kids.length ≤ x.kids.length := by omega
    clear tk3
    go_wp2_with fail
    go_loopw [5] (fun i wq => ∃ k : Nat, k ≤ x.kids.length ∧ i = .int .i64 k ∧ Hid (Alike Cs.cd x.kids y.kids k) ∧ Below w4.heap.size w4 wq) (fun i _ => x.kids.length - (intOf i).toNat)
    case atStart => exact ⟨0, Nat.zero_le _, rfl, Lib.hid Alike.zero, Below.refl _ _⟩
    case round =>
      obtain ⟨k1, hkl1, rfl, hall1, hL1⟩ := hrel
      have hBL1 := hB4.trans (hL1.mono (by omega))
      have hxL1 := cells_later hx4 (by omega) hL1
      have hyL1 := cells_later hy4 (by omega) hL1
      have hzL1 := Nat.le_trans hz4 hL1.size
      clear hx4 hy4
      have cx := hxL1 12
      have cy := hyL1 12
      simp only [List.getElem?_toArray, List.getElem?_cons_zero, List.getElem?_cons_succ] at cx cy
      have hlen1 := rd_len m12
      by_cases hlt : k1 < x.kids.length
      · obtain ⟨b, off, rfl, hbs, _⟩ := rd_addr m12 (by omega)
        obtain ⟨b', off', rfl, hbs', _⟩ := rd_addr m12' (by omega)
        have hlt' : k1 < y.kids.length := by omega
        obtain ⟨ea5, ec5, ef5, ea6, ec6, ef6, ea7, ec7, ef7, ea9, ec9, ef9, ea11, ec11, ef11, ea12, ec12, ef12, d0, d1, d2, d3, d4, d5, d6, d7, d8, d9, d10, d11, d12, em0, em1, em2, em3, em4, em5, em6, em7, em8, em9, em10, em11, em12, _⟩ := Cs.at (m12.below hBL1) hlt
        obtain ⟨ea5', ec5', ef5', ea6', ec6', ef6', ea7', ec7', ef7', ea9', ec9', ef9', ea11', ec11', ef11', ea12', ec12', ef12', d0', d1', d2', d3', d4', d5', d6', d7', d8', d9', d10', d11', d12', em0', em1', em2', em3', em4', em5', em6', em7', em8', em9', em10', em11', em12', _⟩ := Cs.at (m12'.below hBL1) hlt'
        cases he : eqV (Cs.cd x.kids[k1]) (Cs.cd y.kids[k1])
        · have HE := Lib.hid he
          go_wp2_with fail
          have qd0 := cell_regrown d0
          have qd1 := cell_regrown d1
          have qd2 := cell_regrown d2
          have qd3 := cell_regrown d3
          have qd4 := cell_regrown d4
          have qd5 := cell_regrown d5
          have qd6 := cell_regrown d6
          have qd7 := cell_regrown d7
          have qd8 := cell_regrown d8
          have qd9 := cell_regrown d9
          have qd10 := cell_regrown d10
          have qd11 := cell_regrown d11
          have qd12 := cell_regrown d12
          have qd0' := cell_regrown d0'
          have qd1' := cell_regrown d1'
          have qd2' := cell_regrown d2'
          have qd3' := cell_regrown d3'
          have qd4' := cell_regrown d4'
          have qd5' := cell_regrown d5'
          have qd6' := cell_regrown d6'
          have qd7' := cell_regrown d7'
          have qd8' := cell_regrown d8'
          have qd9' := cell_regrown d9'
          have qd10' := cell_regrown d10'
          have qd11' := cell_regrown d11'
          have qd12' := cell_regrown d12'
          have qcx := cell_regrown cx
          have qcy := cell_regrown cy
          refine wp_region_quiet_below (by kernel_rfl) (by kernel_rfl) ?_
          repeat (quiet_step (refine Calls.regrown_of (IH.out x.kids[k1] y.kids[k1] _ _ _ _ _ (HK.out _ (List.getElem_mem hlt)) ((Cs.close em0 em1 em2 em3 em4 em5 em6 em7 em8 em9 em10 em11 em12).below (below_regrown _ _ _)) ((Cs.close em0' em1' em2' em3' em4' em5' em6' em7' em8' em9' em10' em11' em12').below (below_regrown _ _ _)))))
          refine wpQuiet_nil ?_
          intro wq0 hwq
          obtain ⟨⟨dq, osq⟩, hwq⟩ := hwq
          have hbq0 : Below wr.heap.size wr wq0 := hwq ▸ below_regrown wr dq osq
          clear hwq qcx qcy qd0 qd1 qd2 qd3 qd4 qd5 qd6 qd7 qd8 qd9 qd10 qd11 qd12 qd0' qd1' qd2' qd3' qd4' qd5' qd6' qd7' qd8' qd9' qd10' qd11' qd12'
          try rw [he]
          go_wp2_with fail
          go_ret
          exact ⟨retB (Cs.eqv_kids (unlike_at hlt hlt' HE.out)).symm, hBL1.trans (hbq0.mono (by omega))⟩
        · have HE := Lib.hid he
          go_wp2_with fail
          have qd0 := cell_regrown d0
          have qd1 := cell_regrown d1
          have qd2 := cell_regrown d2
          have qd3 := cell_regrown d3
          have qd4 := cell_regrown d4
          have qd5 := cell_regrown d5
          have qd6 := cell_regrown d6
          have qd7 := cell_regrown d7
          have qd8 := cell_regrown d8
          have qd9 := cell_regrown d9
          have qd10 := cell_regrown d10
          have qd11 := cell_regrown d11
          have qd12 := cell_regrown d12
          have qd0' := cell_regrown d0'
          have qd1' := cell_regrown d1'
          have qd2' := cell_regrown d2'
          have qd3' := cell_regrown d3'
          have qd4' := cell_regrown d4'
          have qd5' := cell_regrown d5'
          have qd6' := cell_regrown d6'
          have qd7' := cell_regrown d7'
          have qd8' := cell_regrown d8'
          have qd9' := cell_regrown d9'
          have qd10' := cell_regrown d10'
          have qd11' := cell_regrown d11'
          have qd12' := cell_regrown d12'
          have qcx := cell_regrown cx
          have qcy := cell_regrown cy
          refine wp_region_quiet_below (by kernel_rfl) (by kernel_rfl) ?_
          repeat (quiet_step (refine Calls.regrown_of (IH.out x.kids[k1] y.kids[k1] _ _ _ _ _ (HK.out _ (List.getElem_mem hlt)) ((Cs.close em0 em1 em2 em3 em4 em5 em6 em7 em8 em9 em10 em11 em12).below (below_regrown _ _ _)) ((Cs.close em0' em1' em2' em3' em4' em5' em6' em7' em8' em9' em10' em11' em12').below (below_regrown _ _ _)))))
          refine wpQuiet_nil ?_
          intro wq0 hwq
          obtain ⟨⟨dq, osq⟩, hwq⟩ := hwq
          have hbq0 : Below wr.heap.size wr wq0 := hwq ▸ below_regrown wr dq osq
          clear hwq qcx qcy qd0 qd1 qd2 qd3 qd4 qd5 qd6 qd7 qd8 qd9 qd10 qd11 qd12 qd0' qd1' qd2' qd3' qd4' qd5' qd6' qd7' qd8' qd9' qd10' qd11' qd12'
          go_wp2_with fail
          go_roundw
          case rel => exact ⟨k1 + 1, by omega, by go_num, hall1.out.succ hlt hlt' HE.out, hL1.trans (hbq0.mono (by have := hL1.size; omega))⟩
          case measure => simp [intOf]; omega
      have HT_kids := Lib.hid (hall1.out.all (by omega) (by omega))
      clear cx cy
      go_wp2_with fail
      go_ret
      exact ⟨retB (by rw [Cs.eqv, HT_kind.out, HT_n.out, HT_why.out, HT_times.out, HT_a.out, HT_b.out, HT_kids.out]; rfl), hBL1⟩
theorem sameCsS_x (x y : Cs) (vs us : List Value) (f f' : List Nat) (w : World) (hv : RdVs w x.cd vs f) (hx : RdVs w y.cd us f') :
    Calls Try.prog 98 #[.agg vs.toArray, .agg us.toArray] w fun e w' => e = .returned (.bool (eqV x.cd y.cd)) ∧ Below w.heap.size w w' := sameCsS_n _ x y vs us f f' w (Nat.le_refl _) hv hx
set_option maxHeartbeats 1000000 in
theorem sameFmS_n (n : Nat) : ∀ (x y : Fm) (vs us : List Value) (f f' : List Nat) (w : World), ndV x.cd ≤ n → RdVs w x.cd vs f → RdVs w y.cd us f' → Calls Try.prog 110 #[.agg vs.toArray, .agg us.toArray] w fun e w' => e = .returned (.bool (eqV x.cd y.cd)) ∧ Below w.heap.size w w' := by
  induction n with
  | zero => intro x y vs us f f' w hn; have h : 0 < ndV x.cd := by rw [Fm.cd_eq]; simp [ndV, ndC]; try omega
            omega
  | succ n ih =>
    intro x y vs us f f' w hn hv hx
    have HK : Hid (∀ k ∈ x.kids, ndV k.cd ≤ n) := fun k hk => by have := Fm.kid_nd hk; omega
    have IH := Lib.hid ih
    clear ih
    obtain ⟨a3, c3, f3, a5, c5, f5, a6, c6, f6, a7, c7, f7, a11, c11, f11, rfl, _, m0, m1, m2, m3, m4, m5, m6, m7, m8, m9⟩ := Fm.open hv
    obtain ⟨a3', c3', f3', a5', c5', f5', a6', c6', f6', a7', c7', f7', a11', c11', f11', rfl, _, m0', m1', m2', m3', m4', m5', m6', m7', m8', m9'⟩ := Fm.open hx
    go_enter Try.func110, Try.ntmps110
    cases tk1 : (x.kind == y.kind)
    · have HF := Lib.hid (Fm.eqv_kind tk1)
      have tn : (x.kind != y.kind) = true := by rw [bne, tk1]; rfl
      go_wp2_with fail
      go_ret
      exact ⟨retB HF.out.symm, (((Below.refl _ _).alloc (Nat.le_refl _) _).alloc (by simp) _)⟩
    have HT_kind := Lib.hid tk1
    have tn1 : (x.kind != y.kind) = false := by rw [bne, tk1]; rfl
    cases tk2 : (x.lit.no == y.lit.no)
    · have HF := Lib.hid (Fm.eqv_lit_no tk2)
      have tn : (x.lit.no != y.lit.no) = true := by rw [bne, tk2]; rfl
      go_wp2_with fail
      go_ret
      exact ⟨retB HF.out.symm, (((Below.refl _ _).alloc (Nat.le_refl _) _).alloc (by simp) _)⟩
    have HT_lit_no := Lib.hid tk2
    have tn2 : (x.lit.no != y.lit.no) = false := by rw [bne, tk2]; rfl
    go_wp2_with fail
    refine (sameAtmS_x x.lit.atom y.lit.atom _ _ _ _ _ (by exact (Atm.close m1 m2 m3 m4 m5 m6 m7 m8).below (((Below.refl _ _).alloc (Nat.le_refl _) _).alloc (by simp) _)) (by exact (Atm.close m1' m2' m3' m4' m5' m6' m7' m8').below (((Below.refl _ _).alloc (Nat.le_refl _) _).alloc (by simp) _))).mono ?_
    rintro e w1 ⟨rfl, hb1⟩
    obtain ⟨hx1, hy1, hz1, hB1⟩ := box2 (w := w) (wr := w1) (cs := #[.int .i64 x.kind, .int .i64 x.lit.atom.kind, .string x.lit.atom.a.name, .slice a3 x.lit.atom.a.kids.length c3, .string x.lit.atom.b.name, .slice a5 x.lit.atom.b.kids.length c5, .slice a6 x.lit.atom.nums.length c6, .slice a7 x.lit.atom.times.length c7, .int .i64 x.lit.atom.bound, .bool x.lit.atom.strict, .bool x.lit.no, .slice a11 x.kids.length c11]) (ds := #[.int .i64 y.kind, .int .i64 y.lit.atom.kind, .string y.lit.atom.a.name, .slice a3' y.lit.atom.a.kids.length c3', .string y.lit.atom.b.name, .slice a5' y.lit.atom.b.kids.length c5', .slice a6' y.lit.atom.nums.length c6', .slice a7' y.lit.atom.times.length c7', .int .i64 y.lit.atom.bound, .bool y.lit.atom.strict, .bool y.lit.no, .slice a11' y.kids.length c11']) (T := 105) (U := 105) (below_size hb1 (by simp))
    cases hq1 : eqV x.lit.atom.cd y.lit.atom.cd
    · have HF := Lib.hid (Fm.eqv_lit_atom hq1)
      clear hq1
      go_wp2_with fail
      go_ret
      exact ⟨retB HF.out.symm, hB1⟩
    have HT_lit_atom := Lib.hid hq1
    clear hq1
    by_cases tk3 : x.kids.length = y.kids.length
    rotate_left
    · have tf : ((x.kids.length : Int) != (y.kids.length : Int)) = true := by rw [bne_iff_ne]; omega
      have HF := Lib.hid (Fm.eqv_kids (x := x) (y := y) (eqR_len tk3))
      clear tk3
      go_wp2_with fail
      go_ret
      exact ⟨retB HF.out.symm, hB1⟩
    have tq3 : ((x.kids.length : Int) != (y.kids.length : Int)) = false := by rw [tk3]; simp
    have tl3 : x.kids.length ≤ y.kids.length := by omega
    have tm3 : y.kids.length ≤ x.kids.length := by omega
    clear tk3
    go_wp2_with fail
    go_loopw [5] (fun i wq => ∃ k : Nat, k ≤ x.kids.length ∧ i = .int .i64 k ∧ Hid (Alike Fm.cd x.kids y.kids k) ∧ Below w1.heap.size w1 wq) (fun i _ => x.kids.length - (intOf i).toNat)
    case atStart => exact ⟨0, Nat.zero_le _, rfl, Lib.hid Alike.zero, Below.refl _ _⟩
    case round =>
      obtain ⟨k1, hkl1, rfl, hall1, hL1⟩ := hrel
      have hBL1 := hB1.trans (hL1.mono (by omega))
      have hxL1 := cells_later hx1 (by omega) hL1
      have hyL1 := cells_later hy1 (by omega) hL1
      have hzL1 := Nat.le_trans hz1 hL1.size
      clear hx1 hy1
      have cx := hxL1 11
      have cy := hyL1 11
      simp only [List.getElem?_toArray, List.getElem?_cons_zero, List.getElem?_cons_succ] at cx cy
      have hlen1 := rd_len m9
      by_cases hlt : k1 < x.kids.length
      · obtain ⟨b, off, rfl, hbs, _⟩ := rd_addr m9 (by omega)
        obtain ⟨b', off', rfl, hbs', _⟩ := rd_addr m9' (by omega)
        have hlt' : k1 < y.kids.length := by omega
        obtain ⟨ea3, ec3, ef3, ea5, ec5, ef5, ea6, ec6, ef6, ea7, ec7, ef7, ea11, ec11, ef11, d0, d1, d2, d3, d4, d5, d6, d7, d8, d9, d10, d11, em0, em1, em2, em3, em4, em5, em6, em7, em8, em9, _⟩ := Fm.at (m9.below hBL1) hlt
        obtain ⟨ea3', ec3', ef3', ea5', ec5', ef5', ea6', ec6', ef6', ea7', ec7', ef7', ea11', ec11', ef11', d0', d1', d2', d3', d4', d5', d6', d7', d8', d9', d10', d11', em0', em1', em2', em3', em4', em5', em6', em7', em8', em9', _⟩ := Fm.at (m9'.below hBL1) hlt'
        cases he : eqV (Fm.cd x.kids[k1]) (Fm.cd y.kids[k1])
        · have HE := Lib.hid he
          go_wp2_with fail
          have qd0 := cell_regrown d0
          have qd1 := cell_regrown d1
          have qd2 := cell_regrown d2
          have qd3 := cell_regrown d3
          have qd4 := cell_regrown d4
          have qd5 := cell_regrown d5
          have qd6 := cell_regrown d6
          have qd7 := cell_regrown d7
          have qd8 := cell_regrown d8
          have qd9 := cell_regrown d9
          have qd10 := cell_regrown d10
          have qd11 := cell_regrown d11
          have qd0' := cell_regrown d0'
          have qd1' := cell_regrown d1'
          have qd2' := cell_regrown d2'
          have qd3' := cell_regrown d3'
          have qd4' := cell_regrown d4'
          have qd5' := cell_regrown d5'
          have qd6' := cell_regrown d6'
          have qd7' := cell_regrown d7'
          have qd8' := cell_regrown d8'
          have qd9' := cell_regrown d9'
          have qd10' := cell_regrown d10'
          have qd11' := cell_regrown d11'
          have qcx := cell_regrown cx
          have qcy := cell_regrown cy
          refine wp_region_quiet_below (by kernel_rfl) (by kernel_rfl) ?_
          repeat (quiet_step (refine Calls.regrown_of (IH.out x.kids[k1] y.kids[k1] _ _ _ _ _ (HK.out _ (List.getElem_mem hlt)) ((Fm.close em0 em1 em2 em3 em4 em5 em6 em7 em8 em9).below (below_regrown _ _ _)) ((Fm.close em0' em1' em2' em3' em4' em5' em6' em7' em8' em9').below (below_regrown _ _ _)))))
          refine wpQuiet_nil ?_
          intro wq0 hwq
          obtain ⟨⟨dq, osq⟩, hwq⟩ := hwq
          have hbq0 : Below wr.heap.size wr wq0 := hwq ▸ below_regrown wr dq osq
          clear hwq qcx qcy qd0 qd1 qd2 qd3 qd4 qd5 qd6 qd7 qd8 qd9 qd10 qd11 qd0' qd1' qd2' qd3' qd4' qd5' qd6' qd7' qd8' qd9' qd10' qd11'
          try rw [he]
          go_wp2_with fail
          go_ret
          exact ⟨retB (Fm.eqv_kids (unlike_at hlt hlt' HE.out)).symm, hBL1.trans (hbq0.mono (by omega))⟩
        · have HE := Lib.hid he
          go_wp2_with fail
          have qd0 := cell_regrown d0
          have qd1 := cell_regrown d1
          have qd2 := cell_regrown d2
          have qd3 := cell_regrown d3
          have qd4 := cell_regrown d4
          have qd5 := cell_regrown d5
          have qd6 := cell_regrown d6
          have qd7 := cell_regrown d7
          have qd8 := cell_regrown d8
          have qd9 := cell_regrown d9
          have qd10 := cell_regrown d10
          have qd11 := cell_regrown d11
          have qd0' := cell_regrown d0'
          have qd1' := cell_regrown d1'
          have qd2' := cell_regrown d2'
          have qd3' := cell_regrown d3'
          have qd4' := cell_regrown d4'
          have qd5' := cell_regrown d5'
          have qd6' := cell_regrown d6'
          have qd7' := cell_regrown d7'
          have qd8' := cell_regrown d8'
          have qd9' := cell_regrown d9'
          have qd10' := cell_regrown d10'
          have qd11' := cell_regrown d11'
          have qcx := cell_regrown cx
          have qcy := cell_regrown cy
          refine wp_region_quiet_below (by kernel_rfl) (by kernel_rfl) ?_
          repeat (quiet_step (refine Calls.regrown_of (IH.out x.kids[k1] y.kids[k1] _ _ _ _ _ (HK.out _ (List.getElem_mem hlt)) ((Fm.close em0 em1 em2 em3 em4 em5 em6 em7 em8 em9).below (below_regrown _ _ _)) ((Fm.close em0' em1' em2' em3' em4' em5' em6' em7' em8' em9').below (below_regrown _ _ _)))))
          refine wpQuiet_nil ?_
          intro wq0 hwq
          obtain ⟨⟨dq, osq⟩, hwq⟩ := hwq
          have hbq0 : Below wr.heap.size wr wq0 := hwq ▸ below_regrown wr dq osq
          clear hwq qcx qcy qd0 qd1 qd2 qd3 qd4 qd5 qd6 qd7 qd8 qd9 qd10 qd11 qd0' qd1' qd2' qd3' qd4' qd5' qd6' qd7' qd8' qd9' qd10' qd11'
          go_wp2_with fail
          go_roundw
          case rel => exact ⟨k1 + 1, by omega, by go_num, hall1.out.succ hlt hlt' HE.out, hL1.trans (hbq0.mono (by have := hL1.size; omega))⟩
          case measure => simp [intOf]; omega
      have HT_kids := Lib.hid (hall1.out.all (by omega) (by omega))
      clear cx cy
      go_wp2_with fail
      go_ret
      exact ⟨retB (by rw [Fm.eqv, HT_kind.out, HT_lit_no.out, HT_lit_atom.out, HT_kids.out]; rfl), hBL1⟩
theorem sameFmS_x (x y : Fm) (vs us : List Value) (f f' : List Nat) (w : World) (hv : RdVs w x.cd vs f) (hx : RdVs w y.cd us f') :
    Calls Try.prog 110 #[.agg vs.toArray, .agg us.toArray] w fun e w' => e = .returned (.bool (eqV x.cd y.cd)) ∧ Below w.heap.size w w' := sameFmS_n _ x y vs us f f' w (Nat.le_refl _) hv hx
set_option maxHeartbeats 1000000 in
theorem samePpS_x (x y : Pp) (vs us : List Value) (f f' : List Nat) (w : World) (hv : RdVs w x.cd vs f) (hx : RdVs w y.cd us f') :
    Calls Try.prog 34 #[.agg vs.toArray, .agg us.toArray] w fun e w' => e = .returned (.bool (eqV x.cd y.cd)) ∧ Below w.heap.size w w' := by
  obtain ⟨a0, c0, f0, a1, c1, f1, rfl, _, m0, m1⟩ := Pp.open hv
  obtain ⟨a0', c0', f0', a1', c1', f1', rfl, _, m0', m1'⟩ := Pp.open hx
  go_enter Try.func34, Try.ntmps34
  by_cases tk1 : x.lemmas.length = y.lemmas.length
  rotate_left
  · have tf : ((x.lemmas.length : Int) != (y.lemmas.length : Int)) = true := by rw [bne_iff_ne]; omega
    have HF := Lib.hid (Pp.eqv_lemmas (x := x) (y := y) (eqR_len tk1))
    clear tk1
    go_wp2_with fail
    go_ret
    exact ⟨retB HF.out.symm, (((Below.refl _ _).alloc (Nat.le_refl _) _).alloc (by simp) _)⟩
  have tq1 : ((x.lemmas.length : Int) != (y.lemmas.length : Int)) = false := by rw [tk1]; simp
  have tl1 : x.lemmas.length ≤ y.lemmas.length := by omega
  have tm1 : y.lemmas.length ≤ x.lemmas.length := by omega
  clear tk1
  by_cases tk2 : x.log.length = y.log.length
  rotate_left
  · have tf : ((x.log.length : Int) != (y.log.length : Int)) = true := by rw [bne_iff_ne]; omega
    have HF := Lib.hid (Pp.eqv_log (x := x) (y := y) (eqR_len tk2))
    clear tk2
    go_wp2_with fail
    go_ret
    exact ⟨retB HF.out.symm, (((Below.refl _ _).alloc (Nat.le_refl _) _).alloc (by simp) _)⟩
  have tq2 : ((x.log.length : Int) != (y.log.length : Int)) = false := by rw [tk2]; simp
  have tl2 : x.log.length ≤ y.log.length := by omega
  have tm2 : y.log.length ≤ x.log.length := by omega
  clear tk2
  go_wp2_with fail
  go_loopw [5] (fun i wq => ∃ k : Nat, k ≤ x.lemmas.length ∧ i = .int .i64 k ∧ Hid (Alike Lm.cd x.lemmas y.lemmas k) ∧ Below ((w.alloc (.cells #[.slice a0 x.lemmas.length c0, .slice a1 x.log.length c1] 64)).alloc (.cells #[.slice a0' y.lemmas.length c0', .slice a1' y.log.length c1'] 64)).heap.size ((w.alloc (.cells #[.slice a0 x.lemmas.length c0, .slice a1 x.log.length c1] 64)).alloc (.cells #[.slice a0' y.lemmas.length c0', .slice a1' y.log.length c1'] 64)) wq) (fun i _ => x.lemmas.length - (intOf i).toNat)
  case atStart => exact ⟨0, Nat.zero_le _, rfl, Lib.hid Alike.zero, Below.refl _ _⟩
  case round =>
    obtain ⟨k1, hkl1, rfl, hall1, hL1⟩ := hrel
    obtain ⟨hxL1, hyL1, hzL1, hBL1⟩ := box2 (w := w) (wr := wr) (cs := #[.slice a0 x.lemmas.length c0, .slice a1 x.log.length c1]) (ds := #[.slice a0' y.lemmas.length c0', .slice a1' y.log.length c1']) (T := 64) (U := 64) (below_size hL1 (by simp))
    have cx := hxL1 0
    have cy := hyL1 0
    simp only [List.getElem?_toArray, List.getElem?_cons_zero, List.getElem?_cons_succ] at cx cy
    have hlen1 := rd_len m0
    by_cases hlt : k1 < x.lemmas.length
    · obtain ⟨b, off, rfl, hbs, _⟩ := rd_addr m0 (by omega)
      obtain ⟨b', off', rfl, hbs', _⟩ := rd_addr m0' (by omega)
      have hlt' : k1 < y.lemmas.length := by omega
      obtain ⟨ea0, ec0, ef0, ea6, ec6, ef6, ea7, ec7, ef7, ea8, ec8, ef8, ea10, ec10, ef10, ea12, ec12, ef12, ea13, ec13, ef13, d0, d1, d2, d3, d4, d5, d6, d7, d8, d9, d10, d11, d12, d13, em0, em1, em2, em3, em4, em5, em6, em7, em8, em9, em10, em11, em12, em13, _⟩ := Lm.at (m0.below hBL1) hlt
      obtain ⟨ea0', ec0', ef0', ea6', ec6', ef6', ea7', ec7', ef7', ea8', ec8', ef8', ea10', ec10', ef10', ea12', ec12', ef12', ea13', ec13', ef13', d0', d1', d2', d3', d4', d5', d6', d7', d8', d9', d10', d11', d12', d13', em0', em1', em2', em3', em4', em5', em6', em7', em8', em9', em10', em11', em12', em13', _⟩ := Lm.at (m0'.below hBL1) hlt'
      cases hemarks : eqR (x.lemmas[k1].marks.map intCd) (y.lemmas[k1].marks.map intCd)
      · have HE := Lib.hid (Lm.eqv_marks hemarks)
        go_wp2_with fail
        have qd0 := cell_regrown d0
        have qd1 := cell_regrown d1
        have qd2 := cell_regrown d2
        have qd3 := cell_regrown d3
        have qd4 := cell_regrown d4
        have qd5 := cell_regrown d5
        have qd6 := cell_regrown d6
        have qd7 := cell_regrown d7
        have qd8 := cell_regrown d8
        have qd9 := cell_regrown d9
        have qd10 := cell_regrown d10
        have qd11 := cell_regrown d11
        have qd12 := cell_regrown d12
        have qd13 := cell_regrown d13
        have qd0' := cell_regrown d0'
        have qd1' := cell_regrown d1'
        have qd2' := cell_regrown d2'
        have qd3' := cell_regrown d3'
        have qd4' := cell_regrown d4'
        have qd5' := cell_regrown d5'
        have qd6' := cell_regrown d6'
        have qd7' := cell_regrown d7'
        have qd8' := cell_regrown d8'
        have qd9' := cell_regrown d9'
        have qd10' := cell_regrown d10'
        have qd11' := cell_regrown d11'
        have qd12' := cell_regrown d12'
        have qd13' := cell_regrown d13'
        have qcx := cell_regrown cx
        have qcy := cell_regrown cy
        refine wp_region_quiet_below (by kernel_rfl) (by kernel_rfl) ?_
        repeat (first | go_big_quiet_skip | quiet_step (first | (go_at_call 97; refine Calls.regrown_of (l5Ints_x x.lemmas[k1].marks y.lemmas[k1].marks _ _ _ _ _ (em0.below (below_regrown _ _ _)) (em0'.below (below_regrown _ _ _)))) | (go_at_call 98; refine Calls.regrown_of (sameCsS_x x.lemmas[k1].case y.lemmas[k1].case _ _ _ _ _ ((Cs.close em1 em2 em3 em4 em5 em6 em7 em8 em9 em10 em11 em12 em13).below (below_regrown _ _ _)) ((Cs.close em1' em2' em3' em4' em5' em6' em7' em8' em9' em10' em11' em12' em13').below (below_regrown _ _ _))))))
        refine wpQuiet_nil ?_
        intro wq0 hwq
        obtain ⟨⟨dq, osq⟩, hwq⟩ := hwq
        have hbq0 : Below wr.heap.size wr wq0 := hwq ▸ below_regrown wr dq osq
        clear hwq qcx qcy qd0 qd1 qd2 qd3 qd4 qd5 qd6 qd7 qd8 qd9 qd10 qd11 qd12 qd13 qd0' qd1' qd2' qd3' qd4' qd5' qd6' qd7' qd8' qd9' qd10' qd11' qd12' qd13'
        try rw [he]
        go_wp2_with fail
        go_ret
        exact ⟨retB (Pp.eqv_lemmas (unlike_at hlt hlt' HE.out)).symm, hBL1.trans (hbq0.mono (by omega))⟩
      cases hecase : eqV x.lemmas[k1].case.cd y.lemmas[k1].case.cd
      · have HE := Lib.hid (Lm.eqv_case hecase)
        go_wp2_with fail
        have qd0 := cell_regrown d0
        have qd1 := cell_regrown d1
        have qd2 := cell_regrown d2
        have qd3 := cell_regrown d3
        have qd4 := cell_regrown d4
        have qd5 := cell_regrown d5
        have qd6 := cell_regrown d6
        have qd7 := cell_regrown d7
        have qd8 := cell_regrown d8
        have qd9 := cell_regrown d9
        have qd10 := cell_regrown d10
        have qd11 := cell_regrown d11
        have qd12 := cell_regrown d12
        have qd13 := cell_regrown d13
        have qd0' := cell_regrown d0'
        have qd1' := cell_regrown d1'
        have qd2' := cell_regrown d2'
        have qd3' := cell_regrown d3'
        have qd4' := cell_regrown d4'
        have qd5' := cell_regrown d5'
        have qd6' := cell_regrown d6'
        have qd7' := cell_regrown d7'
        have qd8' := cell_regrown d8'
        have qd9' := cell_regrown d9'
        have qd10' := cell_regrown d10'
        have qd11' := cell_regrown d11'
        have qd12' := cell_regrown d12'
        have qd13' := cell_regrown d13'
        have qcx := cell_regrown cx
        have qcy := cell_regrown cy
        refine wp_region_quiet_below (by kernel_rfl) (by kernel_rfl) ?_
        repeat (first | go_big_quiet_skip | quiet_step (first | (go_at_call 97; refine Calls.regrown_of (l5Ints_x x.lemmas[k1].marks y.lemmas[k1].marks _ _ _ _ _ (em0.below (below_regrown _ _ _)) (em0'.below (below_regrown _ _ _)))) | (go_at_call 98; refine Calls.regrown_of (sameCsS_x x.lemmas[k1].case y.lemmas[k1].case _ _ _ _ _ ((Cs.close em1 em2 em3 em4 em5 em6 em7 em8 em9 em10 em11 em12 em13).below (below_regrown _ _ _)) ((Cs.close em1' em2' em3' em4' em5' em6' em7' em8' em9' em10' em11' em12' em13').below (below_regrown _ _ _))))))
        refine wpQuiet_nil ?_
        intro wq0 hwq
        obtain ⟨⟨dq, osq⟩, hwq⟩ := hwq
        have hbq0 : Below wr.heap.size wr wq0 := hwq ▸ below_regrown wr dq osq
        clear hwq qcx qcy qd0 qd1 qd2 qd3 qd4 qd5 qd6 qd7 qd8 qd9 qd10 qd11 qd12 qd13 qd0' qd1' qd2' qd3' qd4' qd5' qd6' qd7' qd8' qd9' qd10' qd11' qd12' qd13'
        try rw [he]
        go_wp2_with fail
        go_ret
        exact ⟨retB (Pp.eqv_lemmas (unlike_at hlt hlt' HE.out)).symm, hBL1.trans (hbq0.mono (by omega))⟩
      have HE := Lib.hid (show eqV x.lemmas[k1].cd y.lemmas[k1].cd = true from by rw [Lm.eqv, hemarks, hecase]; rfl)
      go_wp2_with fail
      have qd0 := cell_regrown d0
      have qd1 := cell_regrown d1
      have qd2 := cell_regrown d2
      have qd3 := cell_regrown d3
      have qd4 := cell_regrown d4
      have qd5 := cell_regrown d5
      have qd6 := cell_regrown d6
      have qd7 := cell_regrown d7
      have qd8 := cell_regrown d8
      have qd9 := cell_regrown d9
      have qd10 := cell_regrown d10
      have qd11 := cell_regrown d11
      have qd12 := cell_regrown d12
      have qd13 := cell_regrown d13
      have qd0' := cell_regrown d0'
      have qd1' := cell_regrown d1'
      have qd2' := cell_regrown d2'
      have qd3' := cell_regrown d3'
      have qd4' := cell_regrown d4'
      have qd5' := cell_regrown d5'
      have qd6' := cell_regrown d6'
      have qd7' := cell_regrown d7'
      have qd8' := cell_regrown d8'
      have qd9' := cell_regrown d9'
      have qd10' := cell_regrown d10'
      have qd11' := cell_regrown d11'
      have qd12' := cell_regrown d12'
      have qd13' := cell_regrown d13'
      have qcx := cell_regrown cx
      have qcy := cell_regrown cy
      refine wp_region_quiet_below (by kernel_rfl) (by kernel_rfl) ?_
      repeat (first | go_big_quiet_skip | quiet_step (first | (go_at_call 97; refine Calls.regrown_of (l5Ints_x x.lemmas[k1].marks y.lemmas[k1].marks _ _ _ _ _ (em0.below (below_regrown _ _ _)) (em0'.below (below_regrown _ _ _)))) | (go_at_call 98; refine Calls.regrown_of (sameCsS_x x.lemmas[k1].case y.lemmas[k1].case _ _ _ _ _ ((Cs.close em1 em2 em3 em4 em5 em6 em7 em8 em9 em10 em11 em12 em13).below (below_regrown _ _ _)) ((Cs.close em1' em2' em3' em4' em5' em6' em7' em8' em9' em10' em11' em12' em13').below (below_regrown _ _ _))))))
      refine wpQuiet_nil ?_
      intro wq0 hwq
      obtain ⟨⟨dq, osq⟩, hwq⟩ := hwq
      have hbq0 : Below wr.heap.size wr wq0 := hwq ▸ below_regrown wr dq osq
      clear hwq qcx qcy qd0 qd1 qd2 qd3 qd4 qd5 qd6 qd7 qd8 qd9 qd10 qd11 qd12 qd13 qd0' qd1' qd2' qd3' qd4' qd5' qd6' qd7' qd8' qd9' qd10' qd11' qd12' qd13'
      go_wp2_with fail
      go_roundw
      case rel => exact ⟨k1 + 1, by omega, by go_num, hall1.out.succ hlt hlt' HE.out, hL1.trans (hbq0.mono (by have := hL1.size; omega))⟩
      case measure => simp [intOf]; omega
    have HT_lemmas := Lib.hid (hall1.out.all (by omega) (by omega))
    clear cx cy
    go_wp2_with fail
    go_loopw [6] (fun i wq => ∃ k : Nat, k ≤ x.log.length ∧ i = .int .i64 k ∧ Hid (Alike intsCd x.log y.log k) ∧ Below wr.heap.size wr wq) (fun i _ => x.log.length - (intOf i).toNat)
    case atStart => exact ⟨0, Nat.zero_le _, rfl, Lib.hid Alike.zero, Below.refl _ _⟩
    case round =>
      obtain ⟨k2, hkl2, rfl, hall2, hL2⟩ := hrel
      have hBL2 := hBL1.trans (hL2.mono (by omega))
      have hxL2 := cells_later hxL1 (by omega) hL2
      have hyL2 := cells_later hyL1 (by omega) hL2
      have hzL2 := Nat.le_trans hzL1 hL2.size
      clear hxL1 hyL1
      have cx := hxL2 1
      have cy := hyL2 1
      simp only [List.getElem?_toArray, List.getElem?_cons_zero, List.getElem?_cons_succ] at cx cy
      have hlen2 := rd_len m1
      by_cases hlt : k2 < x.log.length
      · obtain ⟨b, off, rfl, hbs, _⟩ := rd_addr m1 (by omega)
        obtain ⟨b', off', rfl, hbs', _⟩ := rd_addr m1' (by omega)
        have hlt' : k2 < y.log.length := by omega
        obtain ⟨ea0, ec0, ef0, d0, em0, _⟩ := intsCd_at (m1.below hBL2) hlt
        obtain ⟨ea0', ec0', ef0', d0', em0', _⟩ := intsCd_at (m1'.below hBL2) hlt'
        cases he : eqR (x.log[k2].map intCd) (y.log[k2].map intCd)
        · have HE := Lib.hid ((eqV_ints _ _).trans he)
          go_wp2_with fail
          have qd0 := cell_regrown d0
          have qd0' := cell_regrown d0'
          have qcx := cell_regrown cx
          have qcy := cell_regrown cy
          refine wp_region_quiet_below (by kernel_rfl) (by kernel_rfl) ?_
          repeat (quiet_step (refine Calls.regrown_of (l5Ints_x x.log[k2] y.log[k2] _ _ _ _ _ (em0.below (below_regrown _ _ _)) (em0'.below (below_regrown _ _ _)))))
          refine wpQuiet_nil ?_
          intro wq0 hwq
          obtain ⟨⟨dq, osq⟩, hwq⟩ := hwq
          have hbq0 : Below wr.heap.size wr wq0 := hwq ▸ below_regrown wr dq osq
          clear hwq qcx qcy qd0 qd0'
          try rw [he]
          go_wp2_with fail
          go_ret
          exact ⟨retB (Pp.eqv_log (unlike_at hlt hlt' HE.out)).symm, hBL2.trans (hbq0.mono (by omega))⟩
        · have HE := Lib.hid ((eqV_ints _ _).trans he)
          go_wp2_with fail
          have qd0 := cell_regrown d0
          have qd0' := cell_regrown d0'
          have qcx := cell_regrown cx
          have qcy := cell_regrown cy
          refine wp_region_quiet_below (by kernel_rfl) (by kernel_rfl) ?_
          repeat (quiet_step (refine Calls.regrown_of (l5Ints_x x.log[k2] y.log[k2] _ _ _ _ _ (em0.below (below_regrown _ _ _)) (em0'.below (below_regrown _ _ _)))))
          refine wpQuiet_nil ?_
          intro wq0 hwq
          obtain ⟨⟨dq, osq⟩, hwq⟩ := hwq
          have hbq0 : Below wr.heap.size wr wq0 := hwq ▸ below_regrown wr dq osq
          clear hwq qcx qcy qd0 qd0'
          go_wp2_with fail
          go_roundw
          case rel => exact ⟨k2 + 1, by omega, by go_num, hall2.out.succ hlt hlt' HE.out, hL2.trans (hbq0.mono (by have := hL2.size; omega))⟩
          case measure => simp [intOf]; omega
      have HT_log := Lib.hid (hall2.out.all (by omega) (by omega))
      clear cx cy
      go_wp2_with fail
      go_ret
      exact ⟨retB (by rw [Pp.eqv, HT_lemmas.out, HT_log.out]; rfl), hBL2⟩
end Go.Proofs.Ytaogaddgfllkpaa
