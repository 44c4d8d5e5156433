/- Parts of the proof: FormU. -/
import Derived.Test.YtoehhbkhdddeeaaDoorPx44
section
namespace Go.Proofs.YtoehhbkhdddeeaaDoor
open Go Go.RowKit
set_option linter.unusedVariables false
set_option linter.unusedSimpArgs false
set_option maxRecDepth 100000
set_option maxHeartbeats 16000000
theorem zbJ (f : Fm) (vs : List Value) (ff : List Nat) (w : World) (hbig : wtV f.cd ≤ 1048576) (hv : RdVs w f.cd vs ff) :
  Calls Tryd.prog 50 #[.agg vs.toArray] w fun e w' => e = .returned (.bool f.okF) ∧ Below w.heap.size w w' := by
 rw [Fm.okF_right]
 have hv0 := hv
 obtain ⟨a3, c3, f3, a5, c5, f5, a6, c6, f6, a7, c7, f7, a11, c11, f11, rfl, -, m0, m1, m2, m3, m4, m5, m6, m7, m8, m9⟩ := Fm.open hv
 clear hv
 have hln := Fm.tell_len f []
 have hmn := Fm.many_le f 5
 go_enter Tryd.func50, Tryd.ntmps50
 go_wp2_with fail
 refine (l9Shape_n _ f 5 _ _ _ (Nat.le_refl _) hbig (by omega) (by omega) (by exact hv0.below (za _ _))).mono ?_
 rintro e w1 ⟨rfl, hb1⟩
 have HBX := Lib.hid (zg (n := w.heap.size + 1) hb1 (by simp))
 obtain ⟨hx, hz1, hB⟩ := box1 (w := w) (wr := w1) (cs := #[.int .i64 f.kind, .int .i64 f.lit.atom.kind, .string f.lit.atom.a.name, .slice a3 f.lit.atom.a.kids.length c3, .string f.lit.atom.b.name, .slice a5 f.lit.atom.b.kids.length c5, .slice a6 f.lit.atom.nums.length c6, .slice a7 f.lit.atom.times.length c7, .int .i64 f.lit.atom.bound, .bool f.lit.atom.strict, .bool f.lit.no, .slice a11 f.kids.length c11]) (T := 60) (zg hb1 (by simp))
 have C0 := hx 0
 have C1 := hx 1
 have C2 := hx 2
 have C3 := hx 3
 have C4 := hx 4
 have C5 := hx 5
 have C6 := hx 6
 have C7 := hx 7
 have C8 := hx 8
 have C9 := hx 9
 have C10 := hx 10
 have C11 := hx 11
 simp only [zci, zcg, zch] at C0 C1 C2 C3 C4 C5 C6 C7 C8 C9 C10 C11
 clear hb1 hx
 have h55 : (5 : Int).toNat = 5 := rfl
 rw [h55]
 clear h55
 cases hsh : Fm.shape 5 f
 ·have HE := Lib.hid (show f.rightF = false by unfold Fm.rightF; simp [hsh])
  clear hsh
  go_wp2_with fail
  go_ret
  exact ⟨retB HE.out.symm, hB⟩
 ·go_wp2_with fail
  refine (l9Many_n _ f 5 _ _ _ (Nat.le_refl _) hbig (by omega) (by omega) (by exact hv0.below hB)).mono ?_
  rintro e w2 ⟨rfl, hb2⟩
  obtain ⟨hx, hz2, hB2⟩ := box1 (w := w) (wr := w2) (cs := #[.int .i64 f.kind, .int .i64 f.lit.atom.kind, .string f.lit.atom.a.name, .slice a3 f.lit.atom.a.kids.length c3, .string f.lit.atom.b.name, .slice a5 f.lit.atom.b.kids.length c5, .slice a6 f.lit.atom.nums.length c6, .slice a7 f.lit.atom.times.length c7, .int .i64 f.lit.atom.bound, .bool f.lit.atom.strict, .bool f.lit.no, .slice a11 f.kids.length c11]) (T := 60) (HBX.out.trans (hb2.mono (by omega)))
  clear C0 C1 C2 C3 C4 C5 C6 C7 C8 C9 C10 C11
  have C0 := hx 0
  have C1 := hx 1
  have C2 := hx 2
  have C3 := hx 3
  have C4 := hx 4
  have C5 := hx 5
  have C6 := hx 6
  have C7 := hx 7
  have C8 := hx 8
  have C9 := hx 9
  have C10 := hx 10
  have C11 := hx 11
  simp only [zci, zcg, zch] at C0 C1 C2 C3 C4 C5 C6 C7 C8 C9 C10 C11
  have h55 : (5 : Int).toNat = 5 := rfl
  rw [h55]
  clear h55 hx hB
  by_cases h1 : Fm.many 5 f ≤ 10
  ·have HE0 := Lib.hid (show f.rightF = decide (((Fm.tell [] f).length : Int) ≤ 6) by unfold Fm.rightF; rw [Bool.eq_iff_iff]; simp [hsh, h1]; try omega)
   clear hsh
   go_wp2_with fail
   refine (l9Atoms_n _ f [] _ _ (.slice none 0 0) [] w2.heap.size _ (Nat.le_refl _) hbig (by simp; omega) (Nat.le_refl _) (Own.nil _ _ _ _) (by exact hv0.below hB2) (by simp [Value.ownBlock])).mono ?_
   rintro e w3 ⟨lv, fp, rfl, hown, _, hm⟩
   obtain ⟨la, lc, rfl, _, _⟩ := hown.form
   have hB3 := hB2.trans (hm.toBelow (B := w.heap.size) (by omega) (by simp [Value.ownBlock]))
   rw [zcq]
   clear hm hown
   go_wp2_with fail
   go_ret
   exact ⟨retB HE0.out.symm, hB3⟩
  ·have HE := Lib.hid (show f.rightF = false by unfold Fm.rightF; simp [h1])
   clear hsh
   go_wp2_with fail
   go_ret
   exact ⟨retB HE.out.symm, hB2⟩
end Go.Proofs.YtoehhbkhdddeeaaDoor
end
