/- Parts of the proof: LawFormText. -/
import Derived.Deep.RegionHeld3
import Derived.Test.YtoehhbkhdddeeaaDoorPx46
import Derived.Test.YtoehhbkhdddeeaaDoorPx47
import Derived.Test.YtoehhbkhdddeeaaDoorPx21
import Derived.Test.YtoehhbkhdddeeaaDoorPx13
import Derived.Test.YtoehhbkhdddeeaaDoorPx22
section
namespace Go.Proofs.YtoehhbkhdddeeaaDoor
open Go Go.RowKit
set_option linter.unusedVariables false
set_option linter.unusedSimpArgs false
set_option maxRecDepth 100000
set_option maxHeartbeats 16000000
theorem zaR (x0 : Fm) (v0 : List Value) (f0 : List Nat) (w : World) (hv0 : RdVs w x0.cd v0 f0) (htab : Tab9 w) :
  Calls Tryd.prog 5 #[.agg v0.toArray] w fun e w' => e = .returned (.bool true) ∧ Below w.heap.size w w' := by
 obtain ⟨a3A0, c3A0, f3A0, a5A0, c5A0, f5A0, a6A0, c6A0, f6A0, a7A0, c7A0, f7A0, a11A0, c11A0, f11A0, rfl, _, _, _, _, _, _, _, _, _, _, _⟩ := Fm.open hv0
 obtain ⟨r, HR⟩ : ∃ r, Hid ((if x0.okF = true then x0.text else ⟨#[]⟩) = r) := ⟨_, Lib.hid rfl⟩
 go_enter Tryd.func5, Tryd.ntmps5
 go_wp2_with fail
 refine (szForm_x x0 _ _ _ _ (by omega) (by omega) (by exact hv0.below (za _ _))).mono ?_
 rintro e w1 ⟨⟨r0, rfl, hr0⟩, hb⟩
 obtain ⟨X0, hz, hB⟩ := box1 (w := w) (wr := w1) (cs := #[.int .i64 x0.kind, .int .i64 x0.lit.atom.kind, .string x0.lit.atom.a.name, .slice a3A0 x0.lit.atom.a.kids.length c3A0, .string x0.lit.atom.b.name, .slice a5A0 x0.lit.atom.b.kids.length c5A0, .slice a6A0 x0.lit.atom.nums.length c6A0, .slice a7A0 x0.lit.atom.times.length c7A0, .int .i64 x0.lit.atom.bound, .bool x0.lit.atom.strict, .bool x0.lit.no, .slice a11A0 x0.kids.length c11A0]) (T := 55) (zg hb (by simp))
 have hz0 := hB.size
 have hlX0 : w.heap.size < w1.heap.size := by omega
 clear hb
 rcases hr0 with ⟨hs0, rfl⟩ | ⟨hs0, rfl⟩
 rotate_left
 ·go_wp2_with fail
  go_ret
  exact ⟨rfl, hB⟩
 go_wp2_with fail
 have hbig0 : wtV x0.cd ≤ 1048576 := by omega
 clear hs0
 refine (za8 x0 _ _ _ hbig0 (by exact hv0.below hB)).mono ?_
 rintro e wS0 ⟨s0, sf0, rfl, sr0, sg0, hb⟩
 replace X0 := zb X0 hlX0 hb
 replace hB := hB.trans (hb.mono hz0)
 have hzn := hb.size
 replace hlX0 := zcj hlX0 hzn
 replace hz0 := Nat.le_trans hz0 hzn
 clear hb hzn
 go_wp2_with fail
 have hcs := zbd x0 _ _ _ hbig0 sr0
 rw [HR.out] at hcs
 refine hcs.mono ?_
 rintro e wS2 ⟨rfl, hb⟩
 replace X0 := zb X0 hlX0 hb
 replace sr0 := sr0.below hb
 replace hB := hB.trans (hb.mono hz0)
 have hzn := hb.size
 replace hlX0 := zcj hlX0 hzn
 replace hz0 := Nat.le_trans hz0 hzn
 clear hb hzn
 go_wp2_with fail
 refine (za8 x0 _ _ _ hbig0 (by exact hv0.below hB)).mono ?_
 rintro e wt0 ⟨t0, tf0, rfl, tr0, tg0, hb⟩
 replace X0 := zb X0 hlX0 hb
 replace hB := hB.trans (hb.mono hz0)
 have hzn := hb.size
 replace hlX0 := zcj hlX0 hzn
 replace hz0 := Nat.le_trans hz0 hzn
 clear hb hzn
 have tr0' := tr0
 obtain ⟨a3T0, c3T0, f3T0, a5T0, c5T0, f5T0, a6T0, c6T0, f6T0, a7T0, c7T0, f7T0, a11T0, c11T0, f11T0, rfl, _, _, _, _, _, _, _, _, _, _, _⟩ := Fm.open tr0'
 have hZ0 := zu wt0 #[.int .i64 x0.kind, .int .i64 x0.lit.atom.kind, .string x0.lit.atom.a.name, .slice a3T0 x0.lit.atom.a.kids.length c3T0, .string x0.lit.atom.b.name, .slice a5T0 x0.lit.atom.b.kids.length c5T0, .slice a6T0 x0.lit.atom.nums.length c6T0, .slice a7T0 x0.lit.atom.times.length c7T0, .int .i64 x0.lit.atom.bound, .bool x0.lit.atom.strict, .bool x0.lit.no, .slice a11T0 x0.kids.length c11T0] 60
 have hb := za wt0 (.cells #[.int .i64 x0.kind, .int .i64 x0.lit.atom.kind, .string x0.lit.atom.a.name, .slice a3T0 x0.lit.atom.a.kids.length c3T0, .string x0.lit.atom.b.name, .slice a5T0 x0.lit.atom.b.kids.length c5T0, .slice a6T0 x0.lit.atom.nums.length c6T0, .slice a7T0 x0.lit.atom.times.length c7T0, .int .i64 x0.lit.atom.bound, .bool x0.lit.atom.strict, .bool x0.lit.no, .slice a11T0 x0.kids.length c11T0] 60)
 have hzz : (wt0.alloc (.cells #[.int .i64 x0.kind, .int .i64 x0.lit.atom.kind, .string x0.lit.atom.a.name, .slice a3T0 x0.lit.atom.a.kids.length c3T0, .string x0.lit.atom.b.name, .slice a5T0 x0.lit.atom.b.kids.length c5T0, .slice a6T0 x0.lit.atom.nums.length c6T0, .slice a7T0 x0.lit.atom.times.length c7T0, .int .i64 x0.lit.atom.bound, .bool x0.lit.atom.strict, .bool x0.lit.no, .slice a11T0 x0.kids.length c11T0] 60)).heap.size = wt0.heap.size + 1 := by simp
 replace X0 := zb X0 hlX0 hb
 replace tr0 := tr0.below hb
 replace hB := hB.trans (hb.mono hz0)
 have hzn := hb.size
 replace hlX0 := zcj hlX0 hzn
 replace hz0 := Nat.le_trans hz0 hzn
 clear hb hzn
 have hlhZ0 : wt0.heap.size < (wt0.alloc (.cells #[.int .i64 x0.kind, .int .i64 x0.lit.atom.kind, .string x0.lit.atom.a.name, .slice a3T0 x0.lit.atom.a.kids.length c3T0, .string x0.lit.atom.b.name, .slice a5T0 x0.lit.atom.b.kids.length c5T0, .slice a6T0 x0.lit.atom.nums.length c6T0, .slice a7T0 x0.lit.atom.times.length c7T0, .int .i64 x0.lit.atom.bound, .bool x0.lit.atom.strict, .bool x0.lit.no, .slice a11T0 x0.kids.length c11T0] 60)).heap.size := by simp
 go_wp2_with fail
 have hci := zbe x0 _ _ _ hbig0 tr0 (htab.below hB)
 rw [HR.out] at hci
 refine hci.mono ?_
 rintro e wg ⟨rfl, hb⟩
 replace X0 := zb X0 hlX0 hb
 replace hZ0 := zb hZ0 hlhZ0 hb
 replace tr0 := tr0.below hb
 replace hB := hB.trans (hb.mono hz0)
 have hzn := hb.size
 replace hlX0 := zcj hlX0 hzn
 replace hlhZ0 := zcj hlhZ0 hzn
 replace hz0 := Nat.le_trans hz0 hzn
 clear hb hzn
 go_wp2_with fail
 have C0_0 := X0 0
 have C0_1 := X0 1
 have C0_2 := X0 2
 have C0_3 := X0 3
 have C0_4 := X0 4
 have C0_5 := X0 5
 have C0_6 := X0 6
 have C0_7 := X0 7
 have C0_8 := X0 8
 have C0_9 := X0 9
 have C0_10 := X0 10
 have C0_11 := X0 11
 have C1_0 := hZ0 0
 have C1_1 := hZ0 1
 have C1_2 := hZ0 2
 have C1_3 := hZ0 3
 have C1_4 := hZ0 4
 have C1_5 := hZ0 5
 have C1_6 := hZ0 6
 have C1_7 := hZ0 7
 have C1_8 := hZ0 8
 have C1_9 := hZ0 9
 have C1_10 := hZ0 10
 have C1_11 := hZ0 11
 simp only [zci, zcg, zch] at C0_0 C0_1 C0_2 C0_3 C0_4 C0_5 C0_6 C0_7 C0_8 C0_9 C0_10 C0_11 C1_0 C1_1 C1_2 C1_3 C1_4 C1_5 C1_6 C1_7 C1_8 C1_9 C1_10 C1_11
 go_region_held3 (fun W => W.cell? ⟨w.heap.size, 0, none⟩ = some (.int .i64 x0.kind) ∧ W.cell? ⟨w.heap.size, 1, none⟩ = some (.int .i64 x0.lit.atom.kind) ∧ W.cell? ⟨w.heap.size, 2, none⟩ = some (.string x0.lit.atom.a.name) ∧ W.cell? ⟨w.heap.size, 3, none⟩ = some (.slice a3A0 x0.lit.atom.a.kids.length c3A0) ∧ W.cell? ⟨w.heap.size, 4, none⟩ = some (.string x0.lit.atom.b.name) ∧ W.cell? ⟨w.heap.size, 5, none⟩ = some (.slice a5A0 x0.lit.atom.b.kids.length c5A0) ∧ W.cell? ⟨w.heap.size, 6, none⟩ = some (.slice a6A0 x0.lit.atom.nums.length c6A0) ∧ W.cell? ⟨w.heap.size, 7, none⟩ = some (.slice a7A0 x0.lit.atom.times.length c7A0) ∧ W.cell? ⟨w.heap.size, 8, none⟩ = some (.int .i64 x0.lit.atom.bound) ∧ W.cell? ⟨w.heap.size, 9, none⟩ = some (.bool x0.lit.atom.strict) ∧ W.cell? ⟨w.heap.size, 10, none⟩ = some (.bool x0.lit.no) ∧ W.cell? ⟨w.heap.size, 11, none⟩ = some (.slice a11A0 x0.kids.length c11A0) ∧ W.cell? ⟨wt0.heap.size, 0, none⟩ = some (.int .i64 x0.kind) ∧ W.cell? ⟨wt0.heap.size, 1, none⟩ = some (.int .i64 x0.lit.atom.kind) ∧ W.cell? ⟨wt0.heap.size, 2, none⟩ = some (.string x0.lit.atom.a.name) ∧ W.cell? ⟨wt0.heap.size, 3, none⟩ = some (.slice a3T0 x0.lit.atom.a.kids.length c3T0) ∧ W.cell? ⟨wt0.heap.size, 4, none⟩ = some (.string x0.lit.atom.b.name) ∧ W.cell? ⟨wt0.heap.size, 5, none⟩ = some (.slice a5T0 x0.lit.atom.b.kids.length c5T0) ∧ W.cell? ⟨wt0.heap.size, 6, none⟩ = some (.slice a6T0 x0.lit.atom.nums.length c6T0) ∧ W.cell? ⟨wt0.heap.size, 7, none⟩ = some (.slice a7T0 x0.lit.atom.times.length c7T0) ∧ W.cell? ⟨wt0.heap.size, 8, none⟩ = some (.int .i64 x0.lit.atom.bound) ∧ W.cell? ⟨wt0.heap.size, 9, none⟩ = some (.bool x0.lit.atom.strict) ∧ W.cell? ⟨wt0.heap.size, 10, none⟩ = some (.bool x0.lit.no) ∧ W.cell? ⟨wt0.heap.size, 11, none⟩ = some (.slice a11T0 x0.kids.length c11T0) ∧ Below w.heap.size w W)
  (first | exact ⟨C0_0, C0_1, C0_2, C0_3, C0_4, C0_5, C0_6, C0_7, C0_8, C0_9, C0_10, C0_11, C1_0, C1_1, C1_2, C1_3, C1_4, C1_5, C1_6, C1_7, C1_8, C1_9, C1_10, C1_11, hB.drew⟩ | (refine ⟨?_, ?_, ?_, ?_, ?_, ?_, ?_, ?_, ?_, ?_, ?_, ?_, ?_, ?_, ?_, ?_, ?_, ?_, ?_, ?_, ?_, ?_, ?_, ?_, (hB).trans ((zl hbE00).mono (hB).size)⟩ <;> (refine (zc ?_ (zl hbE00)); assumption)) | (refine (zc ?_ (zl hbE00)); assumption) | exact (hB).trans ((zl hbE00).mono (hB).size) | (refine ⟨?_, ?_, ?_, ?_, ?_, ?_, ?_, ?_, ?_, ?_, ?_, ?_, ?_, ?_, ?_, ?_, ?_, ?_, ?_, ?_, ?_, ?_, ?_, ?_, ((hB).trans ((zl hbE00).mono (hB).size)).trans (hbE01.mono ((hB).trans ((zl hbE00).mono (hB).size)).size)⟩ <;> (refine (zc (zc ?_ (zl hbE00)) hbE01); assumption)) | (refine (zc (zc ?_ (zl hbE00)) hbE01); assumption) | exact ((hB).trans ((zl hbE00).mono (hB).size)).trans (hbE01.mono ((hB).trans ((zl hbE00).mono (hB).size)).size))
  (first | (go_at_call 20; (with_reducible refine (za8 x0 _ _ _ hbig0 (by exact hv0.below (hB.drew))).mono ?_); rintro e wE00 ⟨u0, uf0, rfl, ur0, ug0, hbE00⟩) | (go_at_call 22; (with_reducible refine (eqForm_x x0 _ _ _ _ _ (by exact tr0.below ((zl hbE00))) (by exact ur0)).mono ?_); rintro e wE01 ⟨rfl, hbE01⟩))
 have hb := zl hbE00
 clear hbE00
 replace X0 := zb X0 hlX0 hb
 replace hZ0 := zb hZ0 hlhZ0 hb
 replace tr0 := tr0.below hb
 replace hB := hB.trans (hb.mono hz0)
 have hzn := hb.size
 replace hlX0 := zcj hlX0 hzn
 replace hlhZ0 := zcj hlhZ0 hzn
 replace hz0 := Nat.le_trans hz0 hzn
 clear hb hzn
 have hb := hbE01
 clear hbE01
 replace X0 := zb X0 hlX0 hb
 replace hZ0 := zb hZ0 hlhZ0 hb
 replace tr0 := tr0.below hb
 replace hB := hB.trans (hb.mono hz0)
 have hzn := hb.size
 replace hlX0 := zcj hlX0 hzn
 replace hlhZ0 := zcj hlhZ0 hzn
 replace hz0 := Nat.le_trans hz0 hzn
 clear hb hzn
 clear C0_0 C0_1 C0_2 C0_3 C0_4 C0_5 C0_6 C0_7 C0_8 C0_9 C0_10 C0_11 C1_0 C1_1 C1_2 C1_3 C1_4 C1_5 C1_6 C1_7 C1_8 C1_9 C1_10 C1_11
 go_wp2_with fail
 go_ret
 exact ⟨rfl, hB⟩
end Go.Proofs.YtoehhbkhdddeeaaDoor
end
