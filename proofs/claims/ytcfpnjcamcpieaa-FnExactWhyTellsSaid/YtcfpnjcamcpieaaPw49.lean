/- Parts of the proof: ExEq. -/
import Derived.Test.YtcfpnjcamcpieaaPw10
section
namespace Go.Proofs.Ytcfpnjcamcpieaa
open Go Go.RowKit
set_option linter.unusedVariables false
set_option linter.unusedSimpArgs false
set_option maxRecDepth 100000
set_option maxHeartbeats 16000000
theorem eqIntS_x (xs : List Int) (v y : Value) (f f' : List Nat) (w : World) (hv : Rd w (.sl (xs.map zt)) v f) (hx : Rd w (.sl (xs.map zt)) y f') :
  Calls Try.prog 80 #[v, y] w fun e w' => e = .returned (.bool true) ∧ Below w.heap.size w w' := by
 obtain ⟨a, c, rfl, hc1, hc2⟩ := ze hv
 obtain ⟨a', c', rfl, hc1', hc2'⟩ := ze hx
 go_enter Try.func80, Try.ntmps80
 go_wp2_with fail
 go_loopw [5] (fun i wr => ∃ k : Nat, k ≤ xs.length ∧ i = .int .i64 k ∧ Below w.heap.size w wr) (fun i _ => xs.length - (intOf i).toNat)
 case atStart => exact ⟨0, Nat.zero_le _, rfl, Below.refl _ _⟩
 case round =>
  obtain ⟨k, hkl, rfl, hb⟩ := hrel
  have hz := hb.size
  by_cases hlt : k < xs.length
  ·obtain ⟨b, off, rfl, hbs, _⟩ := zk hv (by omega)
   obtain ⟨b', off', rfl, hbs', _⟩ := zk hx (by omega)
   obtain ⟨d0, _⟩ := zam (hv.below hb) hlt
   obtain ⟨d0', _⟩ := zam (hx.below hb) hlt
   go_wp2_with fail
   have q0 := cell_regrown d0
   have q0' := cell_regrown d0'
   clear d0 d0'
   refine wp_region_quiet_below (by kernel_rfl) (by kernel_rfl) ?_
   repeat (quiet_step (fail))
   refine wpQuiet_nil ?_
   intro w2 hw2
   obtain ⟨⟨dq, osq⟩, hw2⟩ := hw2
   have hb2 : Below wr.heap.size wr w2 := hw2 ▸ below_regrown wr dq osq
   clear hw2 q0 q0'
   go_wp2_with fail
   go_roundw
   case rel => exact ⟨k + 1, by omega, by go_num, hb.trans (hb2.mono hz)⟩
   case measure => simp [intOf]; omega
  ·go_wp2_with fail
   go_ret
   exact ⟨rfl, hb⟩
theorem eqTermS_n (n : Nat) (ih : ∀ (x : Tm) (vs us : List Value) (f f' : List Nat) (w : World), ndV x.cd ≤ n → RdVs w x.cd vs f → RdVs w x.cd us f' → Calls Try.prog 35 #[.agg vs.toArray, .agg us.toArray] w fun e w' => e = .returned (.bool true) ∧ Below w.heap.size w w') (xs : List Tm) (v y : Value) (f f' : List Nat) (w : World) (hn : ∀ x ∈ xs, ndV (Tm.cd x) ≤ n) (hv : Rd w (.sl (xs.map Tm.cd)) v f) (hx : Rd w (.sl (xs.map Tm.cd)) y f') :
  Calls Try.prog 63 #[v, y] w fun e w' => e = .returned (.bool true) ∧ Below w.heap.size w w' := by
 obtain ⟨a, c, rfl, hc1, hc2⟩ := ze hv
 obtain ⟨a', c', rfl, hc1', hc2'⟩ := ze hx
 have IH := Lib.hid ih
 have HN := Lib.hid hn
 clear ih hn
 go_enter Try.func63, Try.ntmps63
 go_wp2_with fail
 go_loopw [5] (fun i wr => ∃ k : Nat, k ≤ xs.length ∧ i = .int .i64 k ∧ Below w.heap.size w wr) (fun i _ => xs.length - (intOf i).toNat)
 case atStart => exact ⟨0, Nat.zero_le _, rfl, Below.refl _ _⟩
 case round =>
  obtain ⟨k, hkl, rfl, hb⟩ := hrel
  have hz := hb.size
  by_cases hlt : k < xs.length
  ·obtain ⟨b, off, rfl, hbs, _⟩ := zk hv (by omega)
   obtain ⟨b', off', rfl, hbs', _⟩ := zk hx (by omega)
   obtain ⟨a1, c1, f1, d0, d1, m0, m1, _⟩ := Tm.at (hv.below hb) hlt
   obtain ⟨a1', c1', f1', d0', d1', m0', m1', _⟩ := Tm.at (hx.below hb) hlt
   go_wp2_with fail
   have q0 := cell_regrown d0
   have q0' := cell_regrown d0'
   have q1 := cell_regrown d1
   have q1' := cell_regrown d1'
   clear d0 d0' d1 d1'
   refine wp_region_quiet_below (by kernel_rfl) (by kernel_rfl) ?_
   repeat (quiet_step (refine Calls.regrown_of (IH.out xs[k] _ _ _ _ _ (HN.out _ (zc7 hlt)) ((Tm.close m0 m1).below (below_regrown _ _ _)) ((Tm.close m0' m1').below (below_regrown _ _ _)))))
   refine wpQuiet_nil ?_
   intro w2 hw2
   obtain ⟨⟨dq, osq⟩, hw2⟩ := hw2
   have hb2 : Below wr.heap.size wr w2 := hw2 ▸ below_regrown wr dq osq
   clear hw2 q0 q0' q1 q1'
   go_wp2_with fail
   go_roundw
   case rel => exact ⟨k + 1, by omega, by go_num, hb.trans (hb2.mono hz)⟩
   case measure => simp [intOf]; omega
  ·go_wp2_with fail
   go_ret
   exact ⟨rfl, hb⟩
theorem eqTerm_n (n : Nat) : ∀ (x : Tm) (vs us : List Value) (f f' : List Nat) (w : World), ndV x.cd ≤ n → RdVs w x.cd vs f → RdVs w x.cd us f' → Calls Try.prog 35 #[.agg vs.toArray, .agg us.toArray] w fun e w' => e = .returned (.bool true) ∧ Below w.heap.size w w' := by
 induction n with
 | zero => intro x vs us f f' w hn; have h : 0 < ndV x.cd := (by rw [Tm.cd_eq]; simp [ndV, ndC]; try omega); omega
 | succ n ih =>
  intro x vs us f f' w hn hv hx
  have HK : Hid (∀ k ∈ x.kids, ndV k.cd ≤ n) := fun k hk => by have := Tm.kid_nd hk; omega
  have IH := Lib.hid ih
  clear ih
  obtain ⟨a1, c1, f1, rfl, _, m0, m1⟩ := Tm.open hv
  obtain ⟨a1', c1', f1', rfl, _, m0', m1'⟩ := Tm.open hx
  go_enter Try.func35, Try.ntmps35
  go_wp2_with fail
  refine (eqTermS_n n IH.out x.kids _ _ _ _ _ HK.out (by exact m1.below (((Below.refl _ _).alloc (Nat.le_refl _) _).alloc (by simp) _)) (by exact m1'.below (((Below.refl _ _).alloc (Nat.le_refl _) _).alloc (by simp) _))).mono ?_
  rintro e w1 ⟨rfl, hb1⟩
  obtain ⟨hx1, hy1, hz1, hB1⟩ := box2 (w := w) (wr := w1) (cs := #[.string x.name, .slice a1 x.kids.length c1]) (ds := #[.string x.name, .slice a1' x.kids.length c1']) (T := 37) (U := 37) (zm hb1 (by simp))
  go_wp2_with fail
  go_ret
  exact ⟨rfl, hB1⟩
theorem zb0 (x : Tm) (vs us : List Value) (f f' : List Nat) (w : World) (hv : RdVs w x.cd vs f) (hx : RdVs w x.cd us f') :
  Calls Try.prog 35 #[.agg vs.toArray, .agg us.toArray] w fun e w' => e = .returned (.bool true) ∧ Below w.heap.size w w' := eqTerm_n _ x vs us f f' w (Nat.le_refl _) hv hx
theorem eqSym_x (x : Sy) (vs us : List Value) (f f' : List Nat) (w : World) (hv : RdVs w x.cd vs f) (hx : RdVs w x.cd us f') :
  Calls Try.prog 64 #[.agg vs.toArray, .agg us.toArray] w fun e w' => e = .returned (.bool true) ∧ Below w.heap.size w w' := by
 obtain ⟨a1, c1, f1, rfl, _, m0, m1, m2⟩ := Sy.open hv
 obtain ⟨a1', c1', f1', rfl, _, m0', m1', m2'⟩ := Sy.open hx
 go_enter Try.func64, Try.ntmps64
 go_wp2_with fail
 refine (eqIntS_x x.args _ _ _ _ _ (by exact m1.below (((Below.refl _ _).alloc (Nat.le_refl _) _).alloc (by simp) _)) (by exact m1'.below (((Below.refl _ _).alloc (Nat.le_refl _) _).alloc (by simp) _))).mono ?_
 rintro e w1 ⟨rfl, hb1⟩
 obtain ⟨hx1, hy1, hz1, hB1⟩ := box2 (w := w) (wr := w1) (cs := #[.string x.name, .slice a1 x.args.length c1, .int .i64 x.sort]) (ds := #[.string x.name, .slice a1' x.args.length c1', .int .i64 x.sort]) (T := 94) (U := 94) (zm hb1 (by simp))
 go_wp2_with fail
 go_ret
 exact ⟨rfl, hB1⟩
theorem eqSymS_x (xs : List Sy) (v y : Value) (f f' : List Nat) (w : World) (hv : Rd w (.sl (xs.map Sy.cd)) v f) (hx : Rd w (.sl (xs.map Sy.cd)) y f') :
  Calls Try.prog 36 #[v, y] w fun e w' => e = .returned (.bool true) ∧ Below w.heap.size w w' := by
 obtain ⟨a, c, rfl, hc1, hc2⟩ := ze hv
 obtain ⟨a', c', rfl, hc1', hc2'⟩ := ze hx
 go_enter Try.func36, Try.ntmps36
 go_wp2_with fail
 go_loopw [5] (fun i wr => ∃ k : Nat, k ≤ xs.length ∧ i = .int .i64 k ∧ Below w.heap.size w wr) (fun i _ => xs.length - (intOf i).toNat)
 case atStart => exact ⟨0, Nat.zero_le _, rfl, Below.refl _ _⟩
 case round =>
  obtain ⟨k, hkl, rfl, hb⟩ := hrel
  have hz := hb.size
  by_cases hlt : k < xs.length
  ·obtain ⟨b, off, rfl, hbs, _⟩ := zk hv (by omega)
   obtain ⟨b', off', rfl, hbs', _⟩ := zk hx (by omega)
   obtain ⟨a1, c1, f1, d0, d1, d2, m0, m1, m2, _⟩ := Sy.at (hv.below hb) hlt
   obtain ⟨a1', c1', f1', d0', d1', d2', m0', m1', m2', _⟩ := Sy.at (hx.below hb) hlt
   go_wp2_with fail
   have q0 := cell_regrown d0
   have q0' := cell_regrown d0'
   have q1 := cell_regrown d1
   have q1' := cell_regrown d1'
   have q2 := cell_regrown d2
   have q2' := cell_regrown d2'
   clear d0 d0' d1 d1' d2 d2'
   refine wp_region_quiet_below (by kernel_rfl) (by kernel_rfl) ?_
   repeat (quiet_step (refine Calls.regrown_of (eqSym_x xs[k] _ _ _ _ _ ((Sy.close m0 m1 m2).below (below_regrown _ _ _)) ((Sy.close m0' m1' m2').below (below_regrown _ _ _)))))
   refine wpQuiet_nil ?_
   intro w2 hw2
   obtain ⟨⟨dq, osq⟩, hw2⟩ := hw2
   have hb2 : Below wr.heap.size wr w2 := hw2 ▸ below_regrown wr dq osq
   clear hw2 q0 q0' q1 q1' q2 q2'
   go_wp2_with fail
   go_roundw
   case rel => exact ⟨k + 1, by omega, by go_num, hb.trans (hb2.mono hz)⟩
   case measure => simp [intOf]; omega
  ·go_wp2_with fail
   go_ret
   exact ⟨rfl, hb⟩
theorem zcF (x : Eqn) (vs us : List Value) (f f' : List Nat) (w : World) (hv : RdVs w x.cd vs f) (hx : RdVs w x.cd us f') :
  Calls Try.prog 12 #[.agg vs.toArray, .agg us.toArray] w fun e w' => e = .returned (.bool true) ∧ Below w.heap.size w w' := by
 obtain ⟨a1, c1, f1, a3, c3, f3, rfl, _, m0, m1, m2, m3⟩ := Eqn.open hv
 obtain ⟨a1', c1', f1', a3', c3', f3', rfl, _, m0', m1', m2', m3'⟩ := Eqn.open hx
 go_enter Try.func12, Try.ntmps12
 go_wp2_with fail
 refine (zb0 x.a _ _ _ _ _ (by exact (Tm.close m0 m1).below (((Below.refl _ _).alloc (Nat.le_refl _) _).alloc (by simp) _)) (by exact (Tm.close m0' m1').below (((Below.refl _ _).alloc (Nat.le_refl _) _).alloc (by simp) _))).mono ?_
 rintro e w1 ⟨rfl, hb1⟩
 obtain ⟨hx1, hy1, hz1, hB1⟩ := box2 (w := w) (wr := w1) (cs := #[.string x.a.name, .slice a1 x.a.kids.length c1, .string x.b.name, .slice a3 x.b.kids.length c3]) (ds := #[.string x.a.name, .slice a1' x.a.kids.length c1', .string x.b.name, .slice a3' x.b.kids.length c3']) (T := 39) (U := 39) (zm hb1 (by simp))
 go_wp2_with fail
 refine (zb0 x.b _ _ _ _ _ (by exact (Tm.close m2 m3).below hB1) (by exact (Tm.close m2' m3').below hB1)).mono ?_
 rintro e w2 ⟨rfl, hb2⟩
 have hB2 := hB1.trans (hb2.mono (by omega))
 have hx2 := za hx1 (by omega) hb2
 have hy2 := za hy1 (by omega) hb2
 have hz2 := Nat.le_trans hz1 hb2.size
 clear hx1 hy1
 go_wp2_with fail
 go_ret
 exact ⟨rfl, hB2⟩
theorem eqEqS_x (xs : List Eqn) (v y : Value) (f f' : List Nat) (w : World) (hv : Rd w (.sl (xs.map Eqn.cd)) v f) (hx : Rd w (.sl (xs.map Eqn.cd)) y f') :
  Calls Try.prog 14 #[v, y] w fun e w' => e = .returned (.bool true) ∧ Below w.heap.size w w' := by
 obtain ⟨a, c, rfl, hc1, hc2⟩ := ze hv
 obtain ⟨a', c', rfl, hc1', hc2'⟩ := ze hx
 go_enter Try.func14, Try.ntmps14
 go_wp2_with fail
 go_loopw [5] (fun i wr => ∃ k : Nat, k ≤ xs.length ∧ i = .int .i64 k ∧ Below w.heap.size w wr) (fun i _ => xs.length - (intOf i).toNat)
 case atStart => exact ⟨0, Nat.zero_le _, rfl, Below.refl _ _⟩
 case round =>
  obtain ⟨k, hkl, rfl, hb⟩ := hrel
  have hz := hb.size
  by_cases hlt : k < xs.length
  ·obtain ⟨b, off, rfl, hbs, _⟩ := zk hv (by omega)
   obtain ⟨b', off', rfl, hbs', _⟩ := zk hx (by omega)
   obtain ⟨a1, c1, f1, a3, c3, f3, d0, d1, d2, d3, m0, m1, m2, m3, _⟩ := Eqn.at (hv.below hb) hlt
   obtain ⟨a1', c1', f1', a3', c3', f3', d0', d1', d2', d3', m0', m1', m2', m3', _⟩ := Eqn.at (hx.below hb) hlt
   go_wp2_with fail
   have q0 := cell_regrown d0
   have q0' := cell_regrown d0'
   have q1 := cell_regrown d1
   have q1' := cell_regrown d1'
   have q2 := cell_regrown d2
   have q2' := cell_regrown d2'
   have q3 := cell_regrown d3
   have q3' := cell_regrown d3'
   clear d0 d0' d1 d1' d2 d2' d3 d3'
   refine wp_region_quiet_below (by kernel_rfl) (by kernel_rfl) ?_
   repeat (quiet_step (refine Calls.regrown_of (zcF xs[k] _ _ _ _ _ ((Eqn.close m0 m1 m2 m3).below (below_regrown _ _ _)) ((Eqn.close m0' m1' m2' m3').below (below_regrown _ _ _)))))
   refine wpQuiet_nil ?_
   intro w2 hw2
   obtain ⟨⟨dq, osq⟩, hw2⟩ := hw2
   have hb2 : Below wr.heap.size wr w2 := hw2 ▸ below_regrown wr dq osq
   clear hw2 q0 q0' q1 q1' q2 q2' q3 q3'
   go_wp2_with fail
   go_roundw
   case rel => exact ⟨k + 1, by omega, by go_num, hb.trans (hb2.mono hz)⟩
   case measure => simp [intOf]; omega
  ·go_wp2_with fail
   go_ret
   exact ⟨rfl, hb⟩
theorem eqWhyS_n (n : Nat) (ih : ∀ (x : Wy) (vs us : List Value) (f f' : List Nat) (w : World), ndV x.cd ≤ n → RdVs w x.cd vs f → RdVs w x.cd us f' → Calls Try.prog 15 #[.agg vs.toArray, .agg us.toArray] w fun e w' => e = .returned (.bool true) ∧ Below w.heap.size w w') (xs : List Wy) (v y : Value) (f f' : List Nat) (w : World) (hn : ∀ x ∈ xs, ndV (Wy.cd x) ≤ n) (hv : Rd w (.sl (xs.map Wy.cd)) v f) (hx : Rd w (.sl (xs.map Wy.cd)) y f') :
  Calls Try.prog 37 #[v, y] w fun e w' => e = .returned (.bool true) ∧ Below w.heap.size w w' := by
 obtain ⟨a, c, rfl, hc1, hc2⟩ := ze hv
 obtain ⟨a', c', rfl, hc1', hc2'⟩ := ze hx
 have IH := Lib.hid ih
 have HN := Lib.hid hn
 clear ih hn
 go_enter Try.func37, Try.ntmps37
 go_wp2_with fail
 go_loopw [5] (fun i wr => ∃ k : Nat, k ≤ xs.length ∧ i = .int .i64 k ∧ Below w.heap.size w wr) (fun i _ => xs.length - (intOf i).toNat)
 case atStart => exact ⟨0, Nat.zero_le _, rfl, Below.refl _ _⟩
 case round =>
  obtain ⟨k, hkl, rfl, hb⟩ := hrel
  have hz := hb.size
  by_cases hlt : k < xs.length
  ·obtain ⟨b, off, rfl, hbs, _⟩ := zk hv (by omega)
   obtain ⟨b', off', rfl, hbs', _⟩ := zk hx (by omega)
   obtain ⟨a3, c3, f3, a4, c4, f4, d0, d1, d2, d3, d4, m0, m1, m2, m3, m4, _⟩ := Wy.at (hv.below hb) hlt
   obtain ⟨a3', c3', f3', a4', c4', f4', d0', d1', d2', d3', d4', m0', m1', m2', m3', m4', _⟩ := Wy.at (hx.below hb) hlt
   go_wp2_with fail
   have q0 := cell_regrown d0
   have q0' := cell_regrown d0'
   have q1 := cell_regrown d1
   have q1' := cell_regrown d1'
   have q2 := cell_regrown d2
   have q2' := cell_regrown d2'
   have q3 := cell_regrown d3
   have q3' := cell_regrown d3'
   have q4 := cell_regrown d4
   have q4' := cell_regrown d4'
   clear d0 d0' d1 d1' d2 d2' d3 d3' d4 d4'
   refine wp_region_quiet_below (by kernel_rfl) (by kernel_rfl) ?_
   repeat (quiet_step (refine Calls.regrown_of (IH.out xs[k] _ _ _ _ _ (HN.out _ (zc7 hlt)) ((Wy.close m0 m1 m2 m3 m4).below (below_regrown _ _ _)) ((Wy.close m0' m1' m2' m3' m4').below (below_regrown _ _ _)))))
   refine wpQuiet_nil ?_
   intro w2 hw2
   obtain ⟨⟨dq, osq⟩, hw2⟩ := hw2
   have hb2 : Below wr.heap.size wr w2 := hw2 ▸ below_regrown wr dq osq
   clear hw2 q0 q0' q1 q1' q2 q2' q3 q3' q4 q4'
   go_wp2_with fail
   go_roundw
   case rel => exact ⟨k + 1, by omega, by go_num, hb.trans (hb2.mono hz)⟩
   case measure => simp [intOf]; omega
  ·go_wp2_with fail
   go_ret
   exact ⟨rfl, hb⟩
theorem eqWhy_n (n : Nat) : ∀ (x : Wy) (vs us : List Value) (f f' : List Nat) (w : World), ndV x.cd ≤ n → RdVs w x.cd vs f → RdVs w x.cd us f' → Calls Try.prog 15 #[.agg vs.toArray, .agg us.toArray] w fun e w' => e = .returned (.bool true) ∧ Below w.heap.size w w' := by
 induction n with
 | zero => intro x vs us f f' w hn; have h : 0 < ndV x.cd := (by rw [Wy.cd_eq]; simp [ndV, ndC]; try omega); omega
 | succ n ih =>
  intro x vs us f f' w hn hv hx
  have HK : Hid (∀ k ∈ x.kids, ndV k.cd ≤ n) := fun k hk => by have := Wy.kid_nd hk; omega
  have IH := Lib.hid ih
  clear ih
  obtain ⟨a3, c3, f3, a4, c4, f4, rfl, _, m0, m1, m2, m3, m4⟩ := Wy.open hv
  obtain ⟨a3', c3', f3', a4', c4', f4', rfl, _, m0', m1', m2', m3', m4'⟩ := Wy.open hx
  go_enter Try.func15, Try.ntmps15
  go_wp2_with fail
  refine (zb0 x.t _ _ _ _ _ (by exact (Tm.close m2 m3).below (((Below.refl _ _).alloc (Nat.le_refl _) _).alloc (by simp) _)) (by exact (Tm.close m2' m3').below (((Below.refl _ _).alloc (Nat.le_refl _) _).alloc (by simp) _))).mono ?_
  rintro e w1 ⟨rfl, hb1⟩
  obtain ⟨hx1, hy1, hz1, hB1⟩ := box2 (w := w) (wr := w1) (cs := #[.int .i64 x.rule, .int .i64 x.n, .string x.t.name, .slice a3 x.t.kids.length c3, .slice a4 x.kids.length c4]) (ds := #[.int .i64 x.rule, .int .i64 x.n, .string x.t.name, .slice a3' x.t.kids.length c3', .slice a4' x.kids.length c4']) (T := 50) (U := 50) (zm hb1 (by simp))
  go_wp2_with fail
  refine (eqWhyS_n n IH.out x.kids _ _ _ _ _ HK.out (by exact m4.below hB1) (by exact m4'.below hB1)).mono ?_
  rintro e w2 ⟨rfl, hb2⟩
  have hB2 := hB1.trans (hb2.mono (by omega))
  have hx2 := za hx1 (by omega) hb2
  have hy2 := za hy1 (by omega) hb2
  have hz2 := Nat.le_trans hz1 hb2.size
  clear hx1 hy1
  go_wp2_with fail
  go_ret
  exact ⟨rfl, hB2⟩
theorem eqWhy_x (x : Wy) (vs us : List Value) (f f' : List Nat) (w : World) (hv : RdVs w x.cd vs f) (hx : RdVs w x.cd us f') :
  Calls Try.prog 15 #[.agg vs.toArray, .agg us.toArray] w fun e w' => e = .returned (.bool true) ∧ Below w.heap.size w w' := eqWhy_n _ x vs us f f' w (Nat.le_refl _) hv hx
theorem eqSig_x (x : Sg) (vs us : List Value) (f f' : List Nat) (w : World) (hv : RdVs w x.cd vs f) (hx : RdVs w x.cd us f') :
  Calls Try.prog 13 #[.agg vs.toArray, .agg us.toArray] w fun e w' => e = .returned (.bool true) ∧ Below w.heap.size w w' := by
 obtain ⟨a0, c0, f0, rfl, _, m0⟩ := Sg.open hv
 obtain ⟨a0', c0', f0', rfl, _, m0'⟩ := Sg.open hx
 go_enter Try.func13, Try.ntmps13
 go_wp2_with fail
 refine (eqSymS_x x.syms _ _ _ _ _ (by exact m0.below (((Below.refl _ _).alloc (Nat.le_refl _) _).alloc (by simp) _)) (by exact m0'.below (((Below.refl _ _).alloc (Nat.le_refl _) _).alloc (by simp) _))).mono ?_
 rintro e w1 ⟨rfl, hb1⟩
 obtain ⟨hx1, hy1, hz1, hB1⟩ := box2 (w := w) (wr := w1) (cs := #[.slice a0 x.syms.length c0]) (ds := #[.slice a0' x.syms.length c0']) (T := 44) (U := 44) (zm hb1 (by simp))
 go_wp2_with fail
 go_ret
 exact ⟨rfl, hB1⟩
end Go.Proofs.Ytcfpnjcamcpieaa
end
