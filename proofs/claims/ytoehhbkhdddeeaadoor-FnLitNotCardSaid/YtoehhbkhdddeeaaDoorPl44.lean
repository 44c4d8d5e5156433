/- Parts of the proof: SameC. -/
import Derived.Test.YtoehhbkhdddeeaaDoorPl43
section
namespace Go.Proofs.YtoehhbkhdddeeaaDoor
open Go Go.RowKit
set_option linter.unusedVariables false
set_option linter.unusedSimpArgs false
set_option maxRecDepth 100000
set_option maxHeartbeats 16000000
theorem zaQ (x y : Tm) (vs us : List Value) (f f' : List Nat) (w : World) (hv : RdVs w x.cd vs f) (hx : RdVs w y.cd us f') :
  Calls Tryd.prog 13 #[.agg vs.toArray, .agg us.toArray] w fun e w' => e = .returned (.bool (eqV x.cd y.cd)) ∧ Below w.heap.size w w' := by
 obtain ⟨a1, c1, f1, rfl, _, m0, m1⟩ := Tm.open hv
 obtain ⟨a1', c1', f1', rfl, _, m0', m1'⟩ := Tm.open hx
 rw [← Tm.beq_cd]
 exact zaJ _ x y _ _ w (Nat.le_refl _) (TmR.mk m0 ⟨_, m1⟩) (TmR.mk m0' ⟨_, m1'⟩)
theorem zb5 (xs ys : List Tm) (v u : Value) (f f' : List Nat) (w : World) (hv : Rd w (.sl (xs.map Tm.cd)) v f) (hx : Rd w (.sl (ys.map Tm.cd)) u f') :
  Calls Tryd.prog 28 #[v, u, .func (.func 13) #[] #[]] w fun e w' => e = .returned (.bool (eqR (xs.map Tm.cd) (ys.map Tm.cd))) ∧ Below w.heap.size w w' := by
 rw [← Tm.beqs_cd]
 exact zap (Tm.sizes xs) (zaJ _) xs ys v u w (fun t ht => Tm.size_mem ht) ⟨f, hv⟩ ⟨f', hx⟩
theorem za2 (x y : Atm) (vs us : List Value) (f f' : List Nat) (w : World) (hv : RdVs w x.cd vs f) (hx : RdVs w y.cd us f') :
  Calls Tryd.prog 9 #[.agg vs.toArray, .agg us.toArray] w fun e w' => e = .returned (.bool (eqV x.cd y.cd)) ∧ Below w.heap.size w w' := by
 obtain ⟨a2, c2, f2, a4, c4, f4, a5, c5, f5, a6, c6, f6, rfl, _, m0, m1, m2, m3, m4, m5, m6, m7⟩ := Atm.open hv
 obtain ⟨a2', c2', f2', a4', c4', f4', a5', c5', f5', a6', c6', f6', rfl, _, m0', m1', m2', m3', m4', m5', m6', m7'⟩ := Atm.open hx
 go_enter Tryd.func9, Tryd.ntmps9
 cases tk1 : (x.kind == y.kind)
 ·have HF := Lib.hid (Atm.eqv_kind tk1)
  go_wp2_with fail
  go_ret
  exact ⟨retB HF.out.symm, (((Below.refl _ _).alloc (Nat.le_refl _) _).alloc (by simp) _)⟩
 have HT_kind := Lib.hid tk1
 go_wp2_with fail
 refine (zaQ x.a y.a _ _ _ _ _ (by exact (Tm.close m1 m2).below (((Below.refl _ _).alloc (Nat.le_refl _) _).alloc (by simp) _)) (by exact (Tm.close m1' m2').below (((Below.refl _ _).alloc (Nat.le_refl _) _).alloc (by simp) _))).mono ?_
 rintro e w1 ⟨rfl, hb1⟩
 obtain ⟨hx1, hy1, hz1, hB1⟩ := box2 (w := w) (wr := w1) (cs := #[.int .i64 x.kind, .string x.a.name, .slice a2 x.a.kids.length c2, .string x.b.name, .slice a4 x.b.kids.length c4, .slice a5 x.nums.length c5, .slice a6 x.times.length c6, .int .i64 x.bound, .bool x.strict]) (ds := #[.int .i64 y.kind, .string y.a.name, .slice a2' y.a.kids.length c2', .string y.b.name, .slice a4' y.b.kids.length c4', .slice a5' y.nums.length c5', .slice a6' y.times.length c6', .int .i64 y.bound, .bool y.strict]) (T := 28) (U := 28) (zH hb1 (by simp))
 cases hq1 : eqV x.a.cd y.a.cd
 ·have HF := Lib.hid (Atm.eqv_a hq1)
  clear hq1
  go_wp2_with fail
  go_ret
  exact ⟨retB HF.out.symm, hB1⟩
 have HT_a := Lib.hid hq1
 clear hq1
 go_wp2_with fail
 refine (zaQ x.b y.b _ _ _ _ _ (by exact (Tm.close m3 m4).below hB1) (by exact (Tm.close m3' m4').below hB1)).mono ?_
 rintro e w2 ⟨rfl, hb2⟩
 have hB2 := hB1.trans (hb2.mono (by omega))
 have hx2 := zb hx1 (by omega) hb2
 have hy2 := zb hy1 (by omega) hb2
 have hz2 := Nat.le_trans hz1 hb2.size
 clear hx1 hy1
 cases hq2 : eqV x.b.cd y.b.cd
 ·have HF := Lib.hid (Atm.eqv_b hq2)
  clear hq2
  go_wp2_with fail
  go_ret
  exact ⟨retB HF.out.symm, hB2⟩
 have HT_b := Lib.hid hq2
 clear hq2
 go_wp2_with fail
 refine (zb5 x.nums y.nums _ _ _ _ _ (by exact m5.below hB2) (by exact m5'.below hB2)).mono ?_
 rintro e w3 ⟨rfl, hb3⟩
 have hB3 := hB2.trans (hb3.mono (by omega))
 have hx3 := zb hx2 (by omega) hb3
 have hy3 := zb hy2 (by omega) hb3
 have hz3 := Nat.le_trans hz2 hb3.size
 clear hx2 hy2
 cases hq3 : eqR (x.nums.map Tm.cd) (y.nums.map Tm.cd)
 ·have HF := Lib.hid (Atm.eqv_nums hq3)
  clear hq3
  go_wp2_with fail
  go_ret
  exact ⟨retB HF.out.symm, hB3⟩
 have HT_nums := Lib.hid hq3
 clear hq3
 go_wp2_with fail
 refine (zbM x.times y.times _ _ _ _ _ (by exact m6.below hB3) (by exact m6'.below hB3)).mono ?_
 rintro e w4 ⟨rfl, hb4⟩
 have hB4 := hB3.trans (hb4.mono (by omega))
 have hx4 := zb hx3 (by omega) hb4
 have hy4 := zb hy3 (by omega) hb4
 have hz4 := Nat.le_trans hz3 hb4.size
 clear hx3 hy3
 cases hq4 : eqR (x.times.map zg) (y.times.map zg)
 ·have HF := Lib.hid (Atm.eqv_times hq4)
  clear hq4
  go_wp2_with fail
  go_ret
  exact ⟨retB HF.out.symm, hB4⟩
 have HT_times := Lib.hid hq4
 clear hq4
 cases tk2 : (x.bound == y.bound)
 ·have HF := Lib.hid (Atm.eqv_bound tk2)
  go_wp2_with fail
  go_ret
  exact ⟨retB HF.out.symm, hB4⟩
 have HT_bound := Lib.hid tk2
 cases tk3 : (x.strict == y.strict)
 ·have HF := Lib.hid (Atm.eqv_strict tk3)
  go_wp2_with fail
  go_ret
  exact ⟨retB HF.out.symm, hB4⟩
 have HT_strict := Lib.hid tk3
 go_wp2_with fail
 go_ret
 exact ⟨retB (by rw [Atm.eqv, HT_kind.out, HT_a.out, HT_b.out, HT_nums.out, HT_times.out, HT_bound.out, HT_strict.out]; try rfl), hB4⟩
end Go.Proofs.YtoehhbkhdddeeaaDoor
end
