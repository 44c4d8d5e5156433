/- Parts of the proof: ExEq. -/
import Derived.Test.YtoehhbkhdddeeaaDoorPx11
section
namespace Go.Proofs.YtoehhbkhdddeeaaDoor
open Go Go.RowKit
set_option linter.unusedVariables false
set_option linter.unusedSimpArgs false
set_option maxRecDepth 100000
set_option maxHeartbeats 16000000
theorem eqIntS_x (xs : List Int) (v y : Value) (f f' : List Nat) (w : World) (hv : Rd w (.sl (xs.map zn)) v f) (hx : Rd w (.sl (xs.map zn)) y f') :
  Calls Tryd.prog 119 #[v, y] w fun e w' => e = .returned (.bool true) ∧ Below w.heap.size w w' := by
 obtain ⟨a, c, rfl, hc1, hc2⟩ := ze hv
 obtain ⟨a', c', rfl, hc1', hc2'⟩ := ze hx
 go_enter Tryd.func119, Tryd.ntmps119
 go_wp2_with fail
 go_loopw [5] (fun i wr => ∃ k : Nat, k ≤ xs.length ∧ i = .int .i64 k ∧ Below w.heap.size w wr) (fun i _ => xs.length - (intOf i).toNat)
 case atStart => exact ⟨0, Nat.zero_le _, rfl, Below.refl _ _⟩
 case round =>
  obtain ⟨k, hkl, rfl, hb⟩ := hrel
  have hz := hb.size
  by_cases hlt : k < xs.length
  ·obtain ⟨b, off, rfl, hbs, _⟩ := zk hv (by omega)
   obtain ⟨b', off', rfl, hbs', _⟩ := zk hx (by omega)
   obtain ⟨d0, _⟩ := zC (hv.below hb) hlt
   obtain ⟨d0', _⟩ := zC (hx.below hb) hlt
   go_wp2_with fail
   have q0 := cell_regrown d0
   have q0' := cell_regrown d0'
   clear d0 d0'
   refine wp_region_quiet_below (by kernel_rfl) (by kernel_rfl) ?_
   repeat (quiet_step (fail))
   refine wpQuiet_nil ?_
   intro w2 hw2
   obtain ⟨⟨dq, osq⟩, hw2⟩ := hw2
   have hb2 : Below wr.heap.size wr w2 := hw2 ▸ below_regrown wr dq osq
   clear hw2 q0 q0'
   go_wp2_with fail
   go_roundw
   case rel => exact ⟨k + 1, by omega, by go_num, hb.trans (hb2.mono hz)⟩
   case measure => simp [intOf]; omega
  ·go_wp2_with fail
   go_ret
   exact ⟨rfl, hb⟩
theorem zbt (n : Nat) (ih : ∀ (x : Tm) (vs us : List Value) (f f' : List Nat) (w : World), ndV x.cd ≤ n → RdVs w x.cd vs f → RdVs w x.cd us f' → Calls Tryd.prog 117 #[.agg vs.toArray, .agg us.toArray] w fun e w' => e = .returned (.bool true) ∧ Below w.heap.size w w') (xs : List Tm) (v y : Value) (f f' : List Nat) (w : World) (hn : ∀ x ∈ xs, ndV (Tm.cd x) ≤ n) (hv : Rd w (.sl (xs.map Tm.cd)) v f) (hx : Rd w (.sl (xs.map Tm.cd)) y f') :
  Calls Tryd.prog 118 #[v, y] w fun e w' => e = .returned (.bool true) ∧ Below w.heap.size w w' := by
 obtain ⟨a, c, rfl, hc1, hc2⟩ := ze hv
 obtain ⟨a', c', rfl, hc1', hc2'⟩ := ze hx
 have IH := Lib.hid ih
 have HN := Lib.hid hn
 clear ih hn
 go_enter Tryd.func118, Tryd.ntmps118
 go_wp2_with fail
 go_loopw [5] (fun i wr => ∃ k : Nat, k ≤ xs.length ∧ i = .int .i64 k ∧ Below w.heap.size w wr) (fun i _ => xs.length - (intOf i).toNat)
 case atStart => exact ⟨0, Nat.zero_le _, rfl, Below.refl _ _⟩
 case round =>
  obtain ⟨k, hkl, rfl, hb⟩ := hrel
  have hz := hb.size
  by_cases hlt : k < xs.length
  ·obtain ⟨b, off, rfl, hbs, _⟩ := zk hv (by omega)
   obtain ⟨b', off', rfl, hbs', _⟩ := zk hx (by omega)
   obtain ⟨a1, c1, f1, d0, d1, m0, m1, _⟩ := Tm.at (hv.below hb) hlt
   obtain ⟨a1', c1', f1', d0', d1', m0', m1', _⟩ := Tm.at (hx.below hb) hlt
   go_wp2_with fail
   have q0 := cell_regrown d0
   have q0' := cell_regrown d0'
   have q1 := cell_regrown d1
   have q1' := cell_regrown d1'
   clear d0 d0' d1 d1'
   refine wp_region_quiet_below (by kernel_rfl) (by kernel_rfl) ?_
   repeat (quiet_step (refine Calls.regrown_of (IH.out xs[k] _ _ _ _ _ (HN.out _ (zcm hlt)) ((Tm.close m0 m1).below (below_regrown _ _ _)) ((Tm.close m0' m1').below (below_regrown _ _ _)))))
   refine wpQuiet_nil ?_
   intro w2 hw2
   obtain ⟨⟨dq, osq⟩, hw2⟩ := hw2
   have hb2 : Below wr.heap.size wr w2 := hw2 ▸ below_regrown wr dq osq
   clear hw2 q0 q0' q1 q1'
   go_wp2_with fail
   go_roundw
   case rel => exact ⟨k + 1, by omega, by go_num, hb.trans (hb2.mono hz)⟩
   case measure => simp [intOf]; omega
  ·go_wp2_with fail
   go_ret
   exact ⟨rfl, hb⟩
theorem zbW (n : Nat) : ∀ (x : Tm) (vs us : List Value) (f f' : List Nat) (w : World), ndV x.cd ≤ n → RdVs w x.cd vs f → RdVs w x.cd us f' → Calls Tryd.prog 117 #[.agg vs.toArray, .agg us.toArray] w fun e w' => e = .returned (.bool true) ∧ Below w.heap.size w w' := by
 induction n with
 | zero => intro x vs us f f' w hn; have h : 0 < ndV x.cd := (by rw [Tm.cd_eq]; simp [ndV, ndC]; try omega); omega
 | succ n ih =>
  intro x vs us f f' w hn hv hx
  have HK : Hid (∀ k ∈ x.kids, ndV k.cd ≤ n) := fun k hk => by have := Tm.kid_nd hk; omega
  have IH := Lib.hid ih
  clear ih
  obtain ⟨a1, c1, f1, rfl, _, m0, m1⟩ := Tm.open hv
  obtain ⟨a1', c1', f1', rfl, _, m0', m1'⟩ := Tm.open hx
  go_enter Tryd.func117, Tryd.ntmps117
  go_wp2_with fail
  refine (zbt n IH.out x.kids _ _ _ _ _ HK.out (by exact m1.below (((Below.refl _ _).alloc (Nat.le_refl _) _).alloc (by simp) _)) (by exact m1'.below (((Below.refl _ _).alloc (Nat.le_refl _) _).alloc (by simp) _))).mono ?_
  rintro e w1 ⟨rfl, hb1⟩
  obtain ⟨hx1, hy1, hz1, hB1⟩ := box2 (w := w) (wr := w1) (cs := #[.string x.name, .slice a1 x.kids.length c1]) (ds := #[.string x.name, .slice a1' x.kids.length c1']) (T := 25) (U := 25) (zg hb1 (by simp))
  go_wp2_with fail
  go_ret
  exact ⟨rfl, hB1⟩
theorem eqTermS_x (xs : List Tm) (v y : Value) (f f' : List Nat) (w : World) (hv : Rd w (.sl (xs.map Tm.cd)) v f) (hx : Rd w (.sl (xs.map Tm.cd)) y f') :
  Calls Tryd.prog 118 #[v, y] w fun e w' => e = .returned (.bool true) ∧ Below w.heap.size w w' :=
 zbt (ndR (xs.map Tm.cd)) (zbW _) xs v y f f' w (fun x hx => Nat.le_of_lt (zar (List.mem_map_of_mem hx))) hv hx
theorem zbX (x : Tm) (vs us : List Value) (f f' : List Nat) (w : World) (hv : RdVs w x.cd vs f) (hx : RdVs w x.cd us f') :
  Calls Tryd.prog 117 #[.agg vs.toArray, .agg us.toArray] w fun e w' => e = .returned (.bool true) ∧ Below w.heap.size w w' := zbW _ x vs us f f' w (Nat.le_refl _) hv hx
theorem eqAtom_x (x : Atm) (vs us : List Value) (f f' : List Nat) (w : World) (hv : RdVs w x.cd vs f) (hx : RdVs w x.cd us f') :
  Calls Tryd.prog 90 #[.agg vs.toArray, .agg us.toArray] w fun e w' => e = .returned (.bool true) ∧ Below w.heap.size w w' := by
 obtain ⟨a2, c2, f2, a4, c4, f4, a5, c5, f5, a6, c6, f6, rfl, _, m0, m1, m2, m3, m4, m5, m6, m7⟩ := Atm.open hv
 obtain ⟨a2', c2', f2', a4', c4', f4', a5', c5', f5', a6', c6', f6', rfl, _, m0', m1', m2', m3', m4', m5', m6', m7'⟩ := Atm.open hx
 go_enter Tryd.func90, Tryd.ntmps90
 go_wp2_with fail
 refine (zbX x.a _ _ _ _ _ (by exact (Tm.close m1 m2).below (((Below.refl _ _).alloc (Nat.le_refl _) _).alloc (by simp) _)) (by exact (Tm.close m1' m2').below (((Below.refl _ _).alloc (Nat.le_refl _) _).alloc (by simp) _))).mono ?_
 rintro e w1 ⟨rfl, hb1⟩
 obtain ⟨hx1, hy1, hz1, hB1⟩ := box2 (w := w) (wr := w1) (cs := #[.int .i64 x.kind, .string x.a.name, .slice a2 x.a.kids.length c2, .string x.b.name, .slice a4 x.b.kids.length c4, .slice a5 x.nums.length c5, .slice a6 x.times.length c6, .int .i64 x.bound, .bool x.strict]) (ds := #[.int .i64 x.kind, .string x.a.name, .slice a2' x.a.kids.length c2', .string x.b.name, .slice a4' x.b.kids.length c4', .slice a5' x.nums.length c5', .slice a6' x.times.length c6', .int .i64 x.bound, .bool x.strict]) (T := 28) (U := 28) (zg hb1 (by simp))
 go_wp2_with fail
 refine (zbX x.b _ _ _ _ _ (by exact (Tm.close m3 m4).below hB1) (by exact (Tm.close m3' m4').below hB1)).mono ?_
 rintro e w2 ⟨rfl, hb2⟩
 have hB2 := hB1.trans (hb2.mono (by omega))
 have hx2 := zb hx1 (by omega) hb2
 have hy2 := zb hy1 (by omega) hb2
 have hz2 := Nat.le_trans hz1 hb2.size
 clear hx1 hy1
 go_wp2_with fail
 refine (eqTermS_x x.nums _ _ _ _ _ (by exact m5.below hB2) (by exact m5'.below hB2)).mono ?_
 rintro e w3 ⟨rfl, hb3⟩
 have hB3 := hB2.trans (hb3.mono (by omega))
 have hx3 := zb hx2 (by omega) hb3
 have hy3 := zb hy2 (by omega) hb3
 have hz3 := Nat.le_trans hz2 hb3.size
 clear hx2 hy2
 go_wp2_with fail
 refine (eqIntS_x x.times _ _ _ _ _ (by exact m6.below hB3) (by exact m6'.below hB3)).mono ?_
 rintro e w4 ⟨rfl, hb4⟩
 have hB4 := hB3.trans (hb4.mono (by omega))
 have hx4 := zb hx3 (by omega) hb4
 have hy4 := zb hy3 (by omega) hb4
 have hz4 := Nat.le_trans hz3 hb4.size
 clear hx3 hy3
 go_wp2_with fail
 go_ret
 exact ⟨rfl, hB4⟩
theorem eqLit_x (x : Lt) (vs us : List Value) (f f' : List Nat) (w : World) (hv : RdVs w x.cd vs f) (hx : RdVs w x.cd us f') :
  Calls Tryd.prog 56 #[.agg vs.toArray, .agg us.toArray] w fun e w' => e = .returned (.bool true) ∧ Below w.heap.size w w' := by
 obtain ⟨a2, c2, f2, a4, c4, f4, a5, c5, f5, a6, c6, f6, rfl, _, m0, m1, m2, m3, m4, m5, m6, m7⟩ := Lt.open hv
 obtain ⟨a2', c2', f2', a4', c4', f4', a5', c5', f5', a6', c6', f6', rfl, _, m0', m1', m2', m3', m4', m5', m6', m7'⟩ := Lt.open hx
 go_enter Tryd.func56, Tryd.ntmps56
 go_wp2_with fail
 refine (eqAtom_x x.atom _ _ _ _ _ (by exact (Atm.close m0 m1 m2 m3 m4 m5 m6 m7).below (((Below.refl _ _).alloc (Nat.le_refl _) _).alloc (by simp) _)) (by exact (Atm.close m0' m1' m2' m3' m4' m5' m6' m7').below (((Below.refl _ _).alloc (Nat.le_refl _) _).alloc (by simp) _))).mono ?_
 rintro e w1 ⟨rfl, hb1⟩
 obtain ⟨hx1, hy1, hz1, hB1⟩ := box2 (w := w) (wr := w1) (cs := #[.int .i64 x.atom.kind, .string x.atom.a.name, .slice a2 x.atom.a.kids.length c2, .string x.atom.b.name, .slice a4 x.atom.b.kids.length c4, .slice a5 x.atom.nums.length c5, .slice a6 x.atom.times.length c6, .int .i64 x.atom.bound, .bool x.atom.strict, .bool x.no]) (ds := #[.int .i64 x.atom.kind, .string x.atom.a.name, .slice a2' x.atom.a.kids.length c2', .string x.atom.b.name, .slice a4' x.atom.b.kids.length c4', .slice a5' x.atom.nums.length c5', .slice a6' x.atom.times.length c6', .int .i64 x.atom.bound, .bool x.atom.strict, .bool x.no]) (T := 30) (U := 30) (zg hb1 (by simp))
 go_wp2_with fail
 go_ret
 exact ⟨rfl, hB1⟩
theorem eqFormS_n (n : Nat) (ih : ∀ (x : Fm) (vs us : List Value) (f f' : List Nat) (w : World), ndV x.cd ≤ n → RdVs w x.cd vs f → RdVs w x.cd us f' → Calls Tryd.prog 22 #[.agg vs.toArray, .agg us.toArray] w fun e w' => e = .returned (.bool true) ∧ Below w.heap.size w w') (xs : List Fm) (v y : Value) (f f' : List Nat) (w : World) (hn : ∀ x ∈ xs, ndV (Fm.cd x) ≤ n) (hv : Rd w (.sl (xs.map Fm.cd)) v f) (hx : Rd w (.sl (xs.map Fm.cd)) y f') :
  Calls Tryd.prog 57 #[v, y] w fun e w' => e = .returned (.bool true) ∧ Below w.heap.size w w' := by
 obtain ⟨a, c, rfl, hc1, hc2⟩ := ze hv
 obtain ⟨a', c', rfl, hc1', hc2'⟩ := ze hx
 have IH := Lib.hid ih
 have HN := Lib.hid hn
 clear ih hn
 go_enter Tryd.func57, Tryd.ntmps57
 go_wp2_with fail
 go_loopw [5] (fun i wr => ∃ k : Nat, k ≤ xs.length ∧ i = .int .i64 k ∧ Below w.heap.size w wr) (fun i _ => xs.length - (intOf i).toNat)
 case atStart => exact ⟨0, Nat.zero_le _, rfl, Below.refl _ _⟩
 case round =>
  obtain ⟨k, hkl, rfl, hb⟩ := hrel
  have hz := hb.size
  by_cases hlt : k < xs.length
  ·obtain ⟨b, off, rfl, hbs, _⟩ := zk hv (by omega)
   obtain ⟨b', off', rfl, hbs', _⟩ := zk hx (by omega)
   obtain ⟨a3, c3, f3, a5, c5, f5, a6, c6, f6, a7, c7, f7, a11, c11, f11, d0, d1, d2, d3, d4, d5, d6, d7, d8, d9, d10, d11, m0, m1, m2, m3, m4, m5, m6, m7, m8, m9, _⟩ := Fm.at (hv.below hb) hlt
   obtain ⟨a3', c3', f3', a5', c5', f5', a6', c6', f6', a7', c7', f7', a11', c11', f11', d0', d1', d2', d3', d4', d5', d6', d7', d8', d9', d10', d11', m0', m1', m2', m3', m4', m5', m6', m7', m8', m9', _⟩ := Fm.at (hx.below hb) hlt
   go_wp2_with fail
   have q0 := cell_regrown d0
   have q0' := cell_regrown d0'
   have q1 := cell_regrown d1
   have q1' := cell_regrown d1'
   have q2 := cell_regrown d2
   have q2' := cell_regrown d2'
   have q3 := cell_regrown d3
   have q3' := cell_regrown d3'
   have q4 := cell_regrown d4
   have q4' := cell_regrown d4'
   have q5 := cell_regrown d5
   have q5' := cell_regrown d5'
   have q6 := cell_regrown d6
   have q6' := cell_regrown d6'
   have q7 := cell_regrown d7
   have q7' := cell_regrown d7'
   have q8 := cell_regrown d8
   have q8' := cell_regrown d8'
   have q9 := cell_regrown d9
   have q9' := cell_regrown d9'
   have q10 := cell_regrown d10
   have q10' := cell_regrown d10'
   have q11 := cell_regrown d11
   have q11' := cell_regrown d11'
   clear d0 d0' d1 d1' d2 d2' d3 d3' d4 d4' d5 d5' d6 d6' d7 d7' d8 d8' d9 d9' d10 d10' d11 d11'
   refine wp_region_quiet_below (by kernel_rfl) (by kernel_rfl) ?_
   repeat (quiet_step (refine Calls.regrown_of (IH.out xs[k] _ _ _ _ _ (HN.out _ (zcm hlt)) ((Fm.close m0 m1 m2 m3 m4 m5 m6 m7 m8 m9).below (below_regrown _ _ _)) ((Fm.close m0' m1' m2' m3' m4' m5' m6' m7' m8' m9').below (below_regrown _ _ _)))))
   refine wpQuiet_nil ?_
   intro w2 hw2
   obtain ⟨⟨dq, osq⟩, hw2⟩ := hw2
   have hb2 : Below wr.heap.size wr w2 := hw2 ▸ below_regrown wr dq osq
   clear hw2 q0 q0' q1 q1' q2 q2' q3 q3' q4 q4' q5 q5' q6 q6' q7 q7' q8 q8' q9 q9' q10 q10' q11 q11'
   go_wp2_with fail
   go_roundw
   case rel => exact ⟨k + 1, by omega, by go_num, hb.trans (hb2.mono hz)⟩
   case measure => simp [intOf]; omega
  ·go_wp2_with fail
   go_ret
   exact ⟨rfl, hb⟩
theorem eqForm_n (n : Nat) : ∀ (x : Fm) (vs us : List Value) (f f' : List Nat) (w : World), ndV x.cd ≤ n → RdVs w x.cd vs f → RdVs w x.cd us f' → Calls Tryd.prog 22 #[.agg vs.toArray, .agg us.toArray] w fun e w' => e = .returned (.bool true) ∧ Below w.heap.size w w' := by
 induction n with
 | zero => intro x vs us f f' w hn; have h : 0 < ndV x.cd := (by rw [Fm.cd_eq]; simp [ndV, ndC]; try omega); omega
 | succ n ih =>
  intro x vs us f f' w hn hv hx
  have HK : Hid (∀ k ∈ x.kids, ndV k.cd ≤ n) := fun k hk => by have := Fm.kid_nd hk; omega
  have IH := Lib.hid ih
  clear ih
  obtain ⟨a3, c3, f3, a5, c5, f5, a6, c6, f6, a7, c7, f7, a11, c11, f11, rfl, _, m0, m1, m2, m3, m4, m5, m6, m7, m8, m9⟩ := Fm.open hv
  obtain ⟨a3', c3', f3', a5', c5', f5', a6', c6', f6', a7', c7', f7', a11', c11', f11', rfl, _, m0', m1', m2', m3', m4', m5', m6', m7', m8', m9'⟩ := Fm.open hx
  go_enter Tryd.func22, Tryd.ntmps22
  go_wp2_with fail
  refine (eqLit_x x.lit _ _ _ _ _ (by exact (Lt.close m1 m2 m3 m4 m5 m6 m7 m8).below (((Below.refl _ _).alloc (Nat.le_refl _) _).alloc (by simp) _)) (by exact (Lt.close m1' m2' m3' m4' m5' m6' m7' m8').below (((Below.refl _ _).alloc (Nat.le_refl _) _).alloc (by simp) _))).mono ?_
  rintro e w1 ⟨rfl, hb1⟩
  obtain ⟨hx1, hy1, hz1, hB1⟩ := box2 (w := w) (wr := w1) (cs := #[.int .i64 x.kind, .int .i64 x.lit.atom.kind, .string x.lit.atom.a.name, .slice a3 x.lit.atom.a.kids.length c3, .string x.lit.atom.b.name, .slice a5 x.lit.atom.b.kids.length c5, .slice a6 x.lit.atom.nums.length c6, .slice a7 x.lit.atom.times.length c7, .int .i64 x.lit.atom.bound, .bool x.lit.atom.strict, .bool x.lit.no, .slice a11 x.kids.length c11]) (ds := #[.int .i64 x.kind, .int .i64 x.lit.atom.kind, .string x.lit.atom.a.name, .slice a3' x.lit.atom.a.kids.length c3', .string x.lit.atom.b.name, .slice a5' x.lit.atom.b.kids.length c5', .slice a6' x.lit.atom.nums.length c6', .slice a7' x.lit.atom.times.length c7', .int .i64 x.lit.atom.bound, .bool x.lit.atom.strict, .bool x.lit.no, .slice a11' x.kids.length c11']) (T := 60) (U := 60) (zg hb1 (by simp))
  go_wp2_with fail
  refine (eqFormS_n n IH.out x.kids _ _ _ _ _ HK.out (by exact m9.below hB1) (by exact m9'.below hB1)).mono ?_
  rintro e w2 ⟨rfl, hb2⟩
  have hB2 := hB1.trans (hb2.mono (by omega))
  have hx2 := zb hx1 (by omega) hb2
  have hy2 := zb hy1 (by omega) hb2
  have hz2 := Nat.le_trans hz1 hb2.size
  clear hx1 hy1
  go_wp2_with fail
  go_ret
  exact ⟨rfl, hB2⟩
theorem eqForm_x (x : Fm) (vs us : List Value) (f f' : List Nat) (w : World) (hv : RdVs w x.cd vs f) (hx : RdVs w x.cd us f') :
  Calls Tryd.prog 22 #[.agg vs.toArray, .agg us.toArray] w fun e w' => e = .returned (.bool true) ∧ Below w.heap.size w w' := eqForm_n _ x vs us f f' w (Nat.le_refl _) hv hx
end Go.Proofs.YtoehhbkhdddeeaaDoor
end
