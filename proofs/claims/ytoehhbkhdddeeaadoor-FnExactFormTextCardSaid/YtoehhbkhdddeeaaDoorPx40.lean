/- Parts of the proof: FormB. -/
import Derived.Test.YtoehhbkhdddeeaaDoorPx39
section
namespace Go.Proofs.YtoehhbkhdddeeaaDoor
open Go Go.RowKit
set_option linter.unusedVariables false
set_option linter.unusedSimpArgs false
set_option maxRecDepth 100000
set_option maxHeartbeats 16000000
theorem zca (f : Fm) (vs : List Value) (ff : List Nat) (w : World) (hbig : wtV f.cd ≤ 1048576) (hv : RdVs w f.cd vs ff) :
  Calls Tryd.prog 54 #[.agg vs.toArray] w fun e w' => e = .returned (.bool f.okF) ∧ Below w.heap.size w w' := by
 have hv0 := hv
 obtain ⟨a3, c3, f3, a5, c5, f5, a6, c6, f6, a7, c7, f7, a11, c11, f11, rfl, -, m0, m1, m2, m3, m4, m5, m6, m7, m8, m9⟩ := Fm.open hv
 clear hv
 have hln := Fm.add_len f []
 go_enter Tryd.func54, Tryd.ntmps54
 go_wp2_with fail
 refine (zb9 f 1 _ _ _ hbig (by omega) (by omega) (by exact hv0.below (za _ _))).mono ?_
 rintro e w1 ⟨rfl, hb1⟩
 obtain ⟨hx, hz1, hB⟩ := box1 (w := w) (wr := w1) (cs := #[.int .i64 f.kind, .int .i64 f.lit.atom.kind, .string f.lit.atom.a.name, .slice a3 f.lit.atom.a.kids.length c3, .string f.lit.atom.b.name, .slice a5 f.lit.atom.b.kids.length c5, .slice a6 f.lit.atom.nums.length c6, .slice a7 f.lit.atom.times.length c7, .int .i64 f.lit.atom.bound, .bool f.lit.atom.strict, .bool f.lit.no, .slice a11 f.kids.length c11]) (T := 60) (zg hb1 (by simp))
 have C0 := hx 0
 have C1 := hx 1
 have C2 := hx 2
 have C3 := hx 3
 have C4 := hx 4
 have C5 := hx 5
 have C6 := hx 6
 have C7 := hx 7
 have C8 := hx 8
 have C9 := hx 9
 have C10 := hx 10
 have C11 := hx 11
 simp only [zci, zcg, zch] at C0 C1 C2 C3 C4 C5 C6 C7 C8 C9 C10 C11
 clear hb1 hx
 have h11 : (1 : Int).toNat = 1 := rfl
 rw [h11]
 clear h11
 by_cases h1 : Fm.sz 1 f ≤ 10
 ·go_wp2_with fail
  refine (zbG _ f [] _ _ (.slice none 0 0) [] w1.heap.size _ (Nat.le_refl _) hbig (by simp; omega) (Nat.le_refl _) (Own.nil _ _ _ _) (Fresh.nil _ _) (by exact hv0.below hB) (by simp [Value.ownBlock])).mono ?_
  rintro e w2 ⟨lv, fp, rfl, hown, _, hm⟩
  obtain ⟨la, lc, rfl, _, _⟩ := hown.form
  have hB2 := hB.trans (hm.toBelow (B := w.heap.size) (by omega) (by simp [Value.ownBlock]))
  rw [zcq]
  clear hm hown
  have HE := Lib.hid (show f.okF = decide (((Fm.add [] f).length : Int) ≤ 6) by unfold Fm.okF; rw [Bool.eq_iff_iff]; simp [h1]; try omega)
  go_wp2_with fail
  go_ret
  exact ⟨retB HE.out.symm, hB2⟩
 ·have HE := Lib.hid (show f.okF = false by unfold Fm.okF; simp [h1])
  go_wp2_with fail
  go_ret
  exact ⟨retB HE.out.symm, hB⟩
end Go.Proofs.YtoehhbkhdddeeaaDoor
end
