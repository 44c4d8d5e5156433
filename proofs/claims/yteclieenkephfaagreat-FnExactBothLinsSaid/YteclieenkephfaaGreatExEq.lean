/- The exact laws' eq functions. -/
import Derived.Test.YteclieenkephfaaGreatExLib
namespace Go.Proofs.YteclieenkephfaaGreat
open Go Go.RowKit
set_option linter.unusedVariables false
set_option linter.unusedSimpArgs false


theorem eqIntS_x (xs : List Int) (v y : Value) (f f' : List Nat) (w : World) (hv : Rd w (.sl (xs.map intCd)) v f) (hx : Rd w (.sl (xs.map intCd)) y f') :
    Calls Tryz.prog 56 #[v, y] w fun e w' => e = .returned (.bool true) ∧ Below w.heap.size w w' := by
  obtain ⟨a, c, rfl, hc1, hc2⟩ := rd_sl_inv hv
  obtain ⟨a', c', rfl, hc1', hc2'⟩ := rd_sl_inv hx
  go_enter Tryz.func56, Tryz.ntmps56
  go_wp2_with fail
  go_loopw [5] (fun i wr => ∃ k : Nat, k ≤ xs.length ∧ i = .int .i64 k ∧ Below w.heap.size w wr) (fun i _ => xs.length - (intOf i).toNat)
  case atStart => exact ⟨0, Nat.zero_le _, rfl, Below.refl _ _⟩
  case round =>
    obtain ⟨k, hkl, rfl, hb⟩ := hrel
    have hz := hb.size
    by_cases hlt : k < xs.length
    · obtain ⟨b, off, rfl, hbs, _⟩ := rd_addr hv (by omega)
      obtain ⟨b', off', rfl, hbs', _⟩ := rd_addr hx (by omega)
      obtain ⟨d0, _⟩ := intCd_at (hv.below hb) hlt
      obtain ⟨d0', _⟩ := intCd_at (hx.below hb) hlt
      go_wp2_with fail
      have q0 := cell_regrown d0
      have q0' := cell_regrown d0'
      clear d0 d0'
      refine wp_region_quiet_below (by kernel_rfl) (by kernel_rfl) ?_
      repeat (quiet_step (fail))
      refine wpQuiet_nil ?_
      intro w2 hw2
      obtain ⟨⟨dq, osq⟩, hw2⟩ := hw2
      have hb2 : Below wr.heap.size wr w2 := hw2 ▸ below_regrown wr dq osq
      clear hw2 q0 q0'
      go_wp2_with fail
      go_roundw
      case rel => exact ⟨k + 1, by omega, by go_num, hb.trans (hb2.mono hz)⟩
      case measure => simp [intOf]; omega
    · go_wp2_with fail
      go_ret
      exact ⟨rfl, hb⟩
theorem eqTermS_n (n : Nat) (ih : ∀ (x : Tm) (vs us : List Value) (f f' : List Nat) (w : World), ndV x.cd ≤ n → RdVs w x.cd vs f → RdVs w x.cd us f' → Calls Tryz.prog 84 #[.agg vs.toArray, .agg us.toArray] w fun e w' => e = .returned (.bool true) ∧ Below w.heap.size w w') (xs : List Tm) (v y : Value) (f f' : List Nat) (w : World) (hn : ∀ x ∈ xs, ndV (Tm.cd x) ≤ n) (hv : Rd w (.sl (xs.map Tm.cd)) v f) (hx : Rd w (.sl (xs.map Tm.cd)) y f') :
    Calls Tryz.prog 85 #[v, y] w fun e w' => e = .returned (.bool true) ∧ Below w.heap.size w w' := by
  obtain ⟨a, c, rfl, hc1, hc2⟩ := rd_sl_inv hv
  obtain ⟨a', c', rfl, hc1', hc2'⟩ := rd_sl_inv hx
  have IH := Lib.hid ih
  have HN := Lib.hid hn
  clear ih hn
  go_enter Tryz.func85, Tryz.ntmps85
  go_wp2_with fail
  go_loopw [5] (fun i wr => ∃ k : Nat, k ≤ xs.length ∧ i = .int .i64 k ∧ Below w.heap.size w wr) (fun i _ => xs.length - (intOf i).toNat)
  case atStart => exact ⟨0, Nat.zero_le _, rfl, Below.refl _ _⟩
  case round =>
    obtain ⟨k, hkl, rfl, hb⟩ := hrel
    have hz := hb.size
    by_cases hlt : k < xs.length
    · obtain ⟨b, off, rfl, hbs, _⟩ := rd_addr hv (by omega)
      obtain ⟨b', off', rfl, hbs', _⟩ := rd_addr hx (by omega)
      obtain ⟨a1, c1, f1, d0, d1, m0, m1, _⟩ := Tm.at (hv.below hb) hlt
      obtain ⟨a1', c1', f1', d0', d1', m0', m1', _⟩ := Tm.at (hx.below hb) hlt
      go_wp2_with fail
      have q0 := cell_regrown d0
      have q0' := cell_regrown d0'
      have q1 := cell_regrown d1
      have q1' := cell_regrown d1'
      clear d0 d0' d1 d1'
      refine wp_region_quiet_below (by kernel_rfl) (by kernel_rfl) ?_
      repeat (quiet_step (refine Calls.regrown_of (IH.out xs[k] _ _ _ _ _ (HN.out _ (List.getElem_mem hlt)) ((Tm.close m0 m1).below (below_regrown _ _ _)) ((Tm.close m0' m1').below (below_regrown _ _ _)))))
      refine wpQuiet_nil ?_
      intro w2 hw2
      obtain ⟨⟨dq, osq⟩, hw2⟩ := hw2
      have hb2 : Below wr.heap.size wr w2 := hw2 ▸ below_regrown wr dq osq
      clear hw2 q0 q0' q1 q1'
      go_wp2_with fail
      go_roundw
      case rel => exact ⟨k + 1, by omega, by go_num, hb.trans (hb2.mono hz)⟩
      case measure => simp [intOf]; omega
    · go_wp2_with fail
      go_ret
      exact ⟨rfl, hb⟩
theorem eqTerm_n (n : Nat) : ∀ (x : Tm) (vs us : List Value) (f f' : List Nat) (w : World), ndV x.cd ≤ n → RdVs w x.cd vs f → RdVs w x.cd us f' → Calls Tryz.prog 84 #[.agg vs.toArray, .agg us.toArray] w fun e w' => e = .returned (.bool true) ∧ Below w.heap.size w w' := by
  induction n with
  | zero => intro x vs us f f' w hn; have h : 0 < ndV x.cd := by rw [Tm.cd_eq]; simp [ndV, ndC]; try omega
            omega
  | succ n ih =>
    intro x vs us f f' w hn hv hx
    have HK : Hid (∀ k ∈ x.kids, ndV k.cd ≤ n) := fun k hk => by have := Tm.kid_nd hk; omega
    have IH := Lib.hid ih
    clear ih
    obtain ⟨a1, c1, f1, rfl, _, m0, m1⟩ := Tm.open hv
    obtain ⟨a1', c1', f1', rfl, _, m0', m1'⟩ := Tm.open hx
    go_enter Tryz.func84, Tryz.ntmps84
    go_wp2_with fail
    refine (eqTermS_n n IH.out x.kids _ _ _ _ _ HK.out (by exact m1.below (((Below.refl _ _).alloc (Nat.le_refl _) _).alloc (by simp) _)) (by exact m1'.below (((Below.refl _ _).alloc (Nat.le_refl _) _).alloc (by simp) _))).mono ?_
    rintro e w1 ⟨rfl, hb1⟩
    obtain ⟨hx1, hy1, hz1, hB1⟩ := box2 (w := w) (wr := w1) (cs := #[.string x.name, .slice a1 x.kids.length c1]) (ds := #[.string x.name, .slice a1' x.kids.length c1']) (T := 60) (U := 60) (below_size hb1 (by simp))
    go_wp2_with fail
    go_ret
    exact ⟨rfl, hB1⟩
theorem eqTermS_x (xs : List Tm) (v y : Value) (f f' : List Nat) (w : World) (hv : Rd w (.sl (xs.map Tm.cd)) v f) (hx : Rd w (.sl (xs.map Tm.cd)) y f') :
    Calls Tryz.prog 85 #[v, y] w fun e w' => e = .returned (.bool true) ∧ Below w.heap.size w w' :=
  eqTermS_n (ndR (xs.map Tm.cd)) (eqTerm_n _) xs v y f f' w (fun x hx => Nat.le_of_lt (ndR_mem (List.mem_map_of_mem hx))) hv hx
theorem eqTerm_x (x : Tm) (vs us : List Value) (f f' : List Nat) (w : World) (hv : RdVs w x.cd vs f) (hx : RdVs w x.cd us f') :
    Calls Tryz.prog 84 #[.agg vs.toArray, .agg us.toArray] w fun e w' => e = .returned (.bool true) ∧ Below w.heap.size w w' := eqTerm_n _ x vs us f f' w (Nat.le_refl _) hv hx
theorem eqSym_x (x : Sy) (vs us : List Value) (f f' : List Nat) (w : World) (hv : RdVs w x.cd vs f) (hx : RdVs w x.cd us f') :
    Calls Tryz.prog 57 #[.agg vs.toArray, .agg us.toArray] w fun e w' => e = .returned (.bool true) ∧ Below w.heap.size w w' := by
  obtain ⟨a1, c1, f1, rfl, _, m0, m1, m2⟩ := Sy.open hv
  obtain ⟨a1', c1', f1', rfl, _, m0', m1', m2'⟩ := Sy.open hx
  go_enter Tryz.func57, Tryz.ntmps57
  go_wp2_with fail
  refine (eqIntS_x x.args _ _ _ _ _ (by exact m1.below (((Below.refl _ _).alloc (Nat.le_refl _) _).alloc (by simp) _)) (by exact m1'.below (((Below.refl _ _).alloc (Nat.le_refl _) _).alloc (by simp) _))).mono ?_
  rintro e w1 ⟨rfl, hb1⟩
  obtain ⟨hx1, hy1, hz1, hB1⟩ := box2 (w := w) (wr := w1) (cs := #[.string x.name, .slice a1 x.args.length c1, .int .i64 x.sort]) (ds := #[.string x.name, .slice a1' x.args.length c1', .int .i64 x.sort]) (T := 86) (U := 86) (below_size hb1 (by simp))
  go_wp2_with fail
  go_ret
  exact ⟨rfl, hB1⟩
theorem eqSymS_x (xs : List Sy) (v y : Value) (f f' : List Nat) (w : World) (hv : Rd w (.sl (xs.map Sy.cd)) v f) (hx : Rd w (.sl (xs.map Sy.cd)) y f') :
    Calls Tryz.prog 29 #[v, y] w fun e w' => e = .returned (.bool true) ∧ Below w.heap.size w w' := by
  obtain ⟨a, c, rfl, hc1, hc2⟩ := rd_sl_inv hv
  obtain ⟨a', c', rfl, hc1', hc2'⟩ := rd_sl_inv hx
  go_enter Tryz.func29, Tryz.ntmps29
  go_wp2_with fail
  go_loopw [5] (fun i wr => ∃ k : Nat, k ≤ xs.length ∧ i = .int .i64 k ∧ Below w.heap.size w wr) (fun i _ => xs.length - (intOf i).toNat)
  case atStart => exact ⟨0, Nat.zero_le _, rfl, Below.refl _ _⟩
  case round =>
    obtain ⟨k, hkl, rfl, hb⟩ := hrel
    have hz := hb.size
    by_cases hlt : k < xs.length
    · obtain ⟨b, off, rfl, hbs, _⟩ := rd_addr hv (by omega)
      obtain ⟨b', off', rfl, hbs', _⟩ := rd_addr hx (by omega)
      obtain ⟨a1, c1, f1, d0, d1, d2, m0, m1, m2, _⟩ := Sy.at (hv.below hb) hlt
      obtain ⟨a1', c1', f1', d0', d1', d2', m0', m1', m2', _⟩ := Sy.at (hx.below hb) hlt
      go_wp2_with fail
      have q0 := cell_regrown d0
      have q0' := cell_regrown d0'
      have q1 := cell_regrown d1
      have q1' := cell_regrown d1'
      have q2 := cell_regrown d2
      have q2' := cell_regrown d2'
      clear d0 d0' d1 d1' d2 d2'
      refine wp_region_quiet_below (by kernel_rfl) (by kernel_rfl) ?_
      repeat (quiet_step (refine Calls.regrown_of (eqSym_x xs[k] _ _ _ _ _ ((Sy.close m0 m1 m2).below (below_regrown _ _ _)) ((Sy.close m0' m1' m2').below (below_regrown _ _ _)))))
      refine wpQuiet_nil ?_
      intro w2 hw2
      obtain ⟨⟨dq, osq⟩, hw2⟩ := hw2
      have hb2 : Below wr.heap.size wr w2 := hw2 ▸ below_regrown wr dq osq
      clear hw2 q0 q0' q1 q1' q2 q2'
      go_wp2_with fail
      go_roundw
      case rel => exact ⟨k + 1, by omega, by go_num, hb.trans (hb2.mono hz)⟩
      case measure => simp [intOf]; omega
    · go_wp2_with fail
      go_ret
      exact ⟨rfl, hb⟩
theorem eqAtom_x (x : Atm) (vs us : List Value) (f f' : List Nat) (w : World) (hv : RdVs w x.cd vs f) (hx : RdVs w x.cd us f') :
    Calls Tryz.prog 58 #[.agg vs.toArray, .agg us.toArray] w fun e w' => e = .returned (.bool true) ∧ Below w.heap.size w w' := by
  obtain ⟨a2, c2, f2, a4, c4, f4, a5, c5, f5, a6, c6, f6, rfl, _, m0, m1, m2, m3, m4, m5, m6, m7⟩ := Atm.open hv
  obtain ⟨a2', c2', f2', a4', c4', f4', a5', c5', f5', a6', c6', f6', rfl, _, m0', m1', m2', m3', m4', m5', m6', m7'⟩ := Atm.open hx
  go_enter Tryz.func58, Tryz.ntmps58
  go_wp2_with fail
  refine (eqTerm_x x.a _ _ _ _ _ (by exact (Tm.close m1 m2).below (((Below.refl _ _).alloc (Nat.le_refl _) _).alloc (by simp) _)) (by exact (Tm.close m1' m2').below (((Below.refl _ _).alloc (Nat.le_refl _) _).alloc (by simp) _))).mono ?_
  rintro e w1 ⟨rfl, hb1⟩
  obtain ⟨hx1, hy1, hz1, hB1⟩ := box2 (w := w) (wr := w1) (cs := #[.int .i64 x.kind, .string x.a.name, .slice a2 x.a.kids.length c2, .string x.b.name, .slice a4 x.b.kids.length c4, .slice a5 x.nums.length c5, .slice a6 x.times.length c6, .int .i64 x.bound, .bool x.strict]) (ds := #[.int .i64 x.kind, .string x.a.name, .slice a2' x.a.kids.length c2', .string x.b.name, .slice a4' x.b.kids.length c4', .slice a5' x.nums.length c5', .slice a6' x.times.length c6', .int .i64 x.bound, .bool x.strict]) (T := 62) (U := 62) (below_size hb1 (by simp))
  go_wp2_with fail
  refine (eqTerm_x x.b _ _ _ _ _ (by exact (Tm.close m3 m4).below hB1) (by exact (Tm.close m3' m4').below hB1)).mono ?_
  rintro e w2 ⟨rfl, hb2⟩
  have hB2 := hB1.trans (hb2.mono (by omega))
  have hx2 := cells_later hx1 (by omega) hb2
  have hy2 := cells_later hy1 (by omega) hb2
  have hz2 := Nat.le_trans hz1 hb2.size
  clear hx1 hy1
  go_wp2_with fail
  refine (eqTermS_x x.nums _ _ _ _ _ (by exact m5.below hB2) (by exact m5'.below hB2)).mono ?_
  rintro e w3 ⟨rfl, hb3⟩
  have hB3 := hB2.trans (hb3.mono (by omega))
  have hx3 := cells_later hx2 (by omega) hb3
  have hy3 := cells_later hy2 (by omega) hb3
  have hz3 := Nat.le_trans hz2 hb3.size
  clear hx2 hy2
  go_wp2_with fail
  refine (eqIntS_x x.times _ _ _ _ _ (by exact m6.below hB3) (by exact m6'.below hB3)).mono ?_
  rintro e w4 ⟨rfl, hb4⟩
  have hB4 := hB3.trans (hb4.mono (by omega))
  have hx4 := cells_later hx3 (by omega) hb4
  have hy4 := cells_later hy3 (by omega) hb4
  have hz4 := Nat.le_trans hz3 hb4.size
  clear hx3 hy3
  go_wp2_with fail
  go_ret
  exact ⟨rfl, hB4⟩
theorem eqLit_x (x : Lt) (vs us : List Value) (f f' : List Nat) (w : World) (hv : RdVs w x.cd vs f) (hx : RdVs w x.cd us f') :
    Calls Tryz.prog 30 #[.agg vs.toArray, .agg us.toArray] w fun e w' => e = .returned (.bool true) ∧ Below w.heap.size w w' := by
  obtain ⟨a2, c2, f2, a4, c4, f4, a5, c5, f5, a6, c6, f6, rfl, _, m0, m1, m2, m3, m4, m5, m6, m7⟩ := Lt.open hv
  obtain ⟨a2', c2', f2', a4', c4', f4', a5', c5', f5', a6', c6', f6', rfl, _, m0', m1', m2', m3', m4', m5', m6', m7'⟩ := Lt.open hx
  go_enter Tryz.func30, Tryz.ntmps30
  go_wp2_with fail
  refine (eqAtom_x x.atom _ _ _ _ _ (by exact (Atm.close m0 m1 m2 m3 m4 m5 m6 m7).below (((Below.refl _ _).alloc (Nat.le_refl _) _).alloc (by simp) _)) (by exact (Atm.close m0' m1' m2' m3' m4' m5' m6' m7').below (((Below.refl _ _).alloc (Nat.le_refl _) _).alloc (by simp) _))).mono ?_
  rintro e w1 ⟨rfl, hb1⟩
  obtain ⟨hx1, hy1, hz1, hB1⟩ := box2 (w := w) (wr := w1) (cs := #[.int .i64 x.atom.kind, .string x.atom.a.name, .slice a2 x.atom.a.kids.length c2, .string x.atom.b.name, .slice a4 x.atom.b.kids.length c4, .slice a5 x.atom.nums.length c5, .slice a6 x.atom.times.length c6, .int .i64 x.atom.bound, .bool x.atom.strict, .bool x.no]) (ds := #[.int .i64 x.atom.kind, .string x.atom.a.name, .slice a2' x.atom.a.kids.length c2', .string x.atom.b.name, .slice a4' x.atom.b.kids.length c4', .slice a5' x.atom.nums.length c5', .slice a6' x.atom.times.length c6', .int .i64 x.atom.bound, .bool x.atom.strict, .bool x.no]) (T := 64) (U := 64) (below_size hb1 (by simp))
  go_wp2_with fail
  go_ret
  exact ⟨rfl, hB1⟩
theorem eqLitS_x (xs : List Lt) (v y : Value) (f f' : List Nat) (w : World) (hv : Rd w (.sl (xs.map Lt.cd)) v f) (hx : Rd w (.sl (xs.map Lt.cd)) y f') :
    Calls Tryz.prog 12 #[v, y] w fun e w' => e = .returned (.bool true) ∧ Below w.heap.size w w' := by
  obtain ⟨a, c, rfl, hc1, hc2⟩ := rd_sl_inv hv
  obtain ⟨a', c', rfl, hc1', hc2'⟩ := rd_sl_inv hx
  go_enter Tryz.func12, Tryz.ntmps12
  go_wp2_with fail
  go_loopw [5] (fun i wr => ∃ k : Nat, k ≤ xs.length ∧ i = .int .i64 k ∧ Below w.heap.size w wr) (fun i _ => xs.length - (intOf i).toNat)
  case atStart => exact ⟨0, Nat.zero_le _, rfl, Below.refl _ _⟩
  case round =>
    obtain ⟨k, hkl, rfl, hb⟩ := hrel
    have hz := hb.size
    by_cases hlt : k < xs.length
    · obtain ⟨b, off, rfl, hbs, _⟩ := rd_addr hv (by omega)
      obtain ⟨b', off', rfl, hbs', _⟩ := rd_addr hx (by omega)
      obtain ⟨a2, c2, f2, a4, c4, f4, a5, c5, f5, a6, c6, f6, d0, d1, d2, d3, d4, d5, d6, d7, d8, d9, m0, m1, m2, m3, m4, m5, m6, m7, _⟩ := Lt.at (hv.below hb) hlt
      obtain ⟨a2', c2', f2', a4', c4', f4', a5', c5', f5', a6', c6', f6', d0', d1', d2', d3', d4', d5', d6', d7', d8', d9', m0', m1', m2', m3', m4', m5', m6', m7', _⟩ := Lt.at (hx.below hb) hlt
      go_wp2_with fail
      have q0 := cell_regrown d0
      have q0' := cell_regrown d0'
      have q1 := cell_regrown d1
      have q1' := cell_regrown d1'
      have q2 := cell_regrown d2
      have q2' := cell_regrown d2'
      have q3 := cell_regrown d3
      have q3' := cell_regrown d3'
      have q4 := cell_regrown d4
      have q4' := cell_regrown d4'
      have q5 := cell_regrown d5
      have q5' := cell_regrown d5'
      have q6 := cell_regrown d6
      have q6' := cell_regrown d6'
      have q7 := cell_regrown d7
      have q7' := cell_regrown d7'
      have q8 := cell_regrown d8
      have q8' := cell_regrown d8'
      have q9 := cell_regrown d9
      have q9' := cell_regrown d9'
      clear d0 d0' d1 d1' d2 d2' d3 d3' d4 d4' d5 d5' d6 d6' d7 d7' d8 d8' d9 d9'
      refine wp_region_quiet_below (by kernel_rfl) (by kernel_rfl) ?_
      repeat (quiet_step (refine Calls.regrown_of (eqLit_x xs[k] _ _ _ _ _ ((Lt.close m0 m1 m2 m3 m4 m5 m6 m7).below (below_regrown _ _ _)) ((Lt.close m0' m1' m2' m3' m4' m5' m6' m7').below (below_regrown _ _ _)))))
      refine wpQuiet_nil ?_
      intro w2 hw2
      obtain ⟨⟨dq, osq⟩, hw2⟩ := hw2
      have hb2 : Below wr.heap.size wr w2 := hw2 ▸ below_regrown wr dq osq
      clear hw2 q0 q0' q1 q1' q2 q2' q3 q3' q4 q4' q5 q5' q6 q6' q7 q7' q8 q8' q9 q9'
      go_wp2_with fail
      go_roundw
      case rel => exact ⟨k + 1, by omega, by go_num, hb.trans (hb2.mono hz)⟩
      case measure => simp [intOf]; omega
    · go_wp2_with fail
      go_ret
      exact ⟨rfl, hb⟩
theorem eqLin_x (x : Ln) (vs us : List Value) (f f' : List Nat) (w : World) (hv : RdVs w x.cd vs f) (hx : RdVs w x.cd us f') :
    Calls Tryz.prog 28 #[.agg vs.toArray, .agg us.toArray] w fun e w' => e = .returned (.bool true) ∧ Below w.heap.size w w' := by
  obtain ⟨a0, c0, f0, rfl, _, m0, m1⟩ := Ln.open hv
  obtain ⟨a0', c0', f0', rfl, _, m0', m1'⟩ := Ln.open hx
  go_enter Tryz.func28, Tryz.ntmps28
  go_wp2_with fail
  refine (eqIntS_x x.coefs _ _ _ _ _ (by exact m0.below (((Below.refl _ _).alloc (Nat.le_refl _) _).alloc (by simp) _)) (by exact m0'.below (((Below.refl _ _).alloc (Nat.le_refl _) _).alloc (by simp) _))).mono ?_
  rintro e w1 ⟨rfl, hb1⟩
  obtain ⟨hx1, hy1, hz1, hB1⟩ := box2 (w := w) (wr := w1) (cs := #[.slice a0 x.coefs.length c0, .int .i64 x.bound, .bool x.strict]) (ds := #[.slice a0' x.coefs.length c0', .int .i64 x.bound, .bool x.strict]) (T := 69) (U := 69) (below_size hb1 (by simp))
  go_wp2_with fail
  go_ret
  exact ⟨rfl, hB1⟩
theorem eqLinS_x (xs : List Ln) (v y : Value) (f f' : List Nat) (w : World) (hv : Rd w (.sl (xs.map Ln.cd)) v f) (hx : Rd w (.sl (xs.map Ln.cd)) y f') :
    Calls Tryz.prog 10 #[v, y] w fun e w' => e = .returned (.bool true) ∧ Below w.heap.size w w' := by
  obtain ⟨a, c, rfl, hc1, hc2⟩ := rd_sl_inv hv
  obtain ⟨a', c', rfl, hc1', hc2'⟩ := rd_sl_inv hx
  go_enter Tryz.func10, Tryz.ntmps10
  go_wp2_with fail
  go_loopw [5] (fun i wr => ∃ k : Nat, k ≤ xs.length ∧ i = .int .i64 k ∧ Below w.heap.size w wr) (fun i _ => xs.length - (intOf i).toNat)
  case atStart => exact ⟨0, Nat.zero_le _, rfl, Below.refl _ _⟩
  case round =>
    obtain ⟨k, hkl, rfl, hb⟩ := hrel
    have hz := hb.size
    by_cases hlt : k < xs.length
    · obtain ⟨b, off, rfl, hbs, _⟩ := rd_addr hv (by omega)
      obtain ⟨b', off', rfl, hbs', _⟩ := rd_addr hx (by omega)
      obtain ⟨a0, c0, f0, d0, d1, d2, m0, m1, _⟩ := Ln.at (hv.below hb) hlt
      obtain ⟨a0', c0', f0', d0', d1', d2', m0', m1', _⟩ := Ln.at (hx.below hb) hlt
      go_wp2_with fail
      have q0 := cell_regrown d0
      have q0' := cell_regrown d0'
      have q1 := cell_regrown d1
      have q1' := cell_regrown d1'
      have q2 := cell_regrown d2
      have q2' := cell_regrown d2'
      clear d0 d0' d1 d1' d2 d2'
      refine wp_region_quiet_below (by kernel_rfl) (by kernel_rfl) ?_
      repeat (quiet_step (refine Calls.regrown_of (eqLin_x xs[k] _ _ _ _ _ ((Ln.close m0 m1).below (below_regrown _ _ _)) ((Ln.close m0' m1').below (below_regrown _ _ _)))))
      refine wpQuiet_nil ?_
      intro w2 hw2
      obtain ⟨⟨dq, osq⟩, hw2⟩ := hw2
      have hb2 : Below wr.heap.size wr w2 := hw2 ▸ below_regrown wr dq osq
      clear hw2 q0 q0' q1 q1' q2 q2'
      go_wp2_with fail
      go_roundw
      case rel => exact ⟨k + 1, by omega, by go_num, hb.trans (hb2.mono hz)⟩
      case measure => simp [intOf]; omega
    · go_wp2_with fail
      go_ret
      exact ⟨rfl, hb⟩
theorem eqSig_x (x : Sg) (vs us : List Value) (f f' : List Nat) (w : World) (hv : RdVs w x.cd vs f) (hx : RdVs w x.cd us f') :
    Calls Tryz.prog 11 #[.agg vs.toArray, .agg us.toArray] w fun e w' => e = .returned (.bool true) ∧ Below w.heap.size w w' := by
  obtain ⟨a0, c0, f0, rfl, _, m0⟩ := Sg.open hv
  obtain ⟨a0', c0', f0', rfl, _, m0'⟩ := Sg.open hx
  go_enter Tryz.func11, Tryz.ntmps11
  go_wp2_with fail
  refine (eqSymS_x x.syms _ _ _ _ _ (by exact m0.below (((Below.refl _ _).alloc (Nat.le_refl _) _).alloc (by simp) _)) (by exact m0'.below (((Below.refl _ _).alloc (Nat.le_refl _) _).alloc (by simp) _))).mono ?_
  rintro e w1 ⟨rfl, hb1⟩
  obtain ⟨hx1, hy1, hz1, hB1⟩ := box2 (w := w) (wr := w1) (cs := #[.slice a0 x.syms.length c0]) (ds := #[.slice a0' x.syms.length c0']) (T := 32) (U := 32) (below_size hb1 (by simp))
  go_wp2_with fail
  go_ret
  exact ⟨rfl, hB1⟩
end Go.Proofs.YteclieenkephfaaGreat
