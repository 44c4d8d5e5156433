/- Parts of the proof: LawLitNotD. -/
import Derived.BigQuiet
import Derived.Test.YtoehhbkhdddeeaaDoorPl47
import Derived.Test.YtoehhbkhdddeeaaDoorPl42
import Derived.Test.YtoehhbkhdddeeaaDoorPl33
import Derived.Test.YtoehhbkhdddeeaaDoorPl44
import Derived.Test.YtoehhbkhdddeeaaDoorPl45
import Derived.Test.YtoehhbkhdddeeaaDoorPl46
section
namespace Go.Proofs.YtoehhbkhdddeeaaDoor
open Go Go.RowKit
set_option linter.unusedVariables false
set_option linter.unusedSimpArgs false
set_option maxRecDepth 100000
set_option maxHeartbeats 16000000
theorem Lt.close9 {w : World} {x : Lt} {vs : List Value} {f : List Nat} (h : RdVs w x.atom.cd vs f) : RdVs w x.cd (vs ++ [.bool x.no]) f := by
 obtain ⟨a2, c2, f2, a4, c4, f4, a5, c5, f5, a6, c6, f6, rfl, rfl, m0, m1, m2, m3, m4, m5, m6, m7⟩ := Atm.open h
 exact Lt.close m0 m1 m2 m3 m4 m5 m6 m7
theorem Lt.atom9 {w : World} {x : Lt} {vs : List Value} {f : List Nat} (h : RdVs w x.cd (vs ++ [.bool x.no]) f) (hl : vs.length = 9) : RdVs w x.atom.cd vs f := by
 obtain ⟨a2, c2, f2, a4, c4, f4, a5, c5, f5, a6, c6, f6, hv, rfl, m0, m1, m2, m3, m4, m5, m6, m7⟩ := Lt.open h
 have h2 := Atm.close m0 m1 m2 m3 m4 m5 m6 m7
 rw [show vs = _ from (List.append_inj_left' (show vs ++ [.bool x.no] = [.int .i64 x.atom.kind, .string x.atom.a.name, .slice a2 x.atom.a.kids.length c2, .string x.atom.b.name, .slice a4 x.atom.b.kids.length c4, .slice a5 x.atom.nums.length c5, .slice a6 x.atom.times.length c6, .int .i64 x.atom.bound, .bool x.atom.strict] ++ [.bool x.no] from hv) rfl)]
 exact h2
theorem zan (d : List CD) : eqV d d = true := (zaf d d).2 rfl
theorem Atm.tms_pos {x : Atm} (h : x.okB = true) : 0 < x.tms.length := by
 by_cases k : x.kind = 1
 ·simp [Atm.tms, k]
 ·rcases Atm.okB_kind h with ⟨k1, _⟩ | ⟨_, _, h2⟩
  ·exact absurd k1 k
  ·simp only [Atm.sumB, Atm.hdB, zck, decide_eq_true_eq] at h2
   rw [Atm.tms, if_neg k]; exact h2.1.2.2.2.1.1
theorem za4 (v : Value) (w : World) (hv : Byts w v) (htab : Tab9 w) :
  Calls Tryd.prog 3 #[v] w fun e w' => e = .returned (.bool true) ∧ Below w.heap.size w w' := by
 have hv0 := hv
 obtain ⟨a, n, cap, rfl, hn1, hn2, _⟩ := hv
 by_cases hlen : n ≤ 1048576
 rotate_left
 ·have hlb : decide ((1048576 : Int) < (n : Int)) = true := by simp; omega
  go_enter Tryd.func3, Tryd.ntmps3
  go_wp2_with fail
  go_ret
  exact ⟨rfl, Below.refl _ _⟩
 have hlb : decide ((1048576 : Int) < (n : Int)) = false := by simp; omega
 go_enter Tryd.func3, Tryd.ntmps3
 go_wp2_with fail
 refine (za3 _ _ hv0).mono ?_
 rintro e w1 ⟨⟨y, no, a2, c2, a4, c4, a5, c5, a6, c6, fy, ht, rfl, hry, _⟩, hB⟩
 have hsmall := ht.small
 have htl : y.times.length ≤ 1048576 := by have := ht.2.2.2.1; omega
 go_upto_region 4 with fail
 have bl := Box.new w1 [.int .i64 y.kind, .string y.a.name, .slice a2 y.a.kids.length c2, .string y.b.name, .slice a4 y.b.kids.length c4, .slice a5 y.nums.length c5, .slice a6 y.times.length c6, .int .i64 y.bound, .bool y.strict, .bool no] 30
 have hb := zc w1 (.cells #[.int .i64 y.kind, .string y.a.name, .slice a2 y.a.kids.length c2, .string y.b.name, .slice a4 y.b.kids.length c4, .slice a5 y.nums.length c5, .slice a6 y.times.length c6, .int .i64 y.bound, .bool y.strict, .bool no] 30)
 replace hry := hry.below hb
 replace hB := hB.trans (hb.mono hB.size)
 obtain ⟨kbl, hkbl⟩ : ∃ z, z = w1.heap.size := ⟨_, rfl⟩
 rw [← hkbl] at bl ⊢
 clear hb hkbl
 generalize w1.alloc (.cells #[.int .i64 y.kind, .string y.a.name, .slice a2 y.a.kids.length c2, .string y.b.name, .slice a4 y.b.kids.length c4, .slice a5 y.nums.length c5, .slice a6 y.times.length c6, .int .i64 y.bound, .bool y.strict, .bool no] 30) = W1 at *
 have hl : RdVs W1 (Lt.mk y no).cd [.int .i64 y.kind, .string y.a.name, .slice a2 y.a.kids.length c2, .string y.b.name, .slice a4 y.b.kids.length c4, .slice a5 y.nums.length c5, .slice a6 y.times.length c6, .int .i64 y.bound, .bool y.strict, .bool no] fy := Lt.close9 (x := Lt.mk y no) hry
 have x0 := bl.2.1 0 _ rfl; have x1 := bl.2.1 1 _ rfl; have x2 := bl.2.1 2 _ rfl; have x3 := bl.2.1 3 _ rfl; have x4 := bl.2.1 4 _ rfl; have x5 := bl.2.1 5 _ rfl; have x6 := bl.2.1 6 _ rfl; have x7 := bl.2.1 7 _ rfl; have x8 := bl.2.1 8 _ rfl; have x9 := bl.2.1 9 _ rfl
 obtain ⟨X, hX⟩ : ∃ X, (Lt.mk y no).not = X := ⟨_, rfl⟩
 have HX := Lib.hid hX
 go_wp2_with fail
 refine (zbe (Lt.mk y no) _ _ _ hsmall htl (by exact hl)).mono ?_
 rintro e w2 ⟨vx, fx, rfl, hrx, _, hb⟩
 replace hry := hry.below hb
 replace bl := bl.below hb
 replace hl := hl.below hb
 replace hB := hB.trans (hb.mono hB.size)
 clear hb
 rw [hX] at hrx
 have hrx9 := hrx
 obtain ⟨d2, e2, _, d4, e4, _, d5, e5, _, d6, e6, _, rfl, _, _, _, _, _, _, _, _, _⟩ := Lt.open hrx9
 clear hrx9
 clear x0 x1 x2 x3 x4 x5 x6 x7 x8 x9
 go_upto_region 5 with fail
 have bx := Box.new w2 [.int .i64 X.atom.kind, .string X.atom.a.name, .slice d2 X.atom.a.kids.length e2, .string X.atom.b.name, .slice d4 X.atom.b.kids.length e4, .slice d5 X.atom.nums.length e5, .slice d6 X.atom.times.length e6, .int .i64 X.atom.bound, .bool X.atom.strict, .bool X.no] 30
 have hb := zc w2 (.cells #[.int .i64 X.atom.kind, .string X.atom.a.name, .slice d2 X.atom.a.kids.length e2, .string X.atom.b.name, .slice d4 X.atom.b.kids.length e4, .slice d5 X.atom.nums.length e5, .slice d6 X.atom.times.length e6, .int .i64 X.atom.bound, .bool X.atom.strict, .bool X.no] 30)
 replace hry := hry.below hb
 replace bl := bl.below hb
 replace hl := hl.below hb
 replace hrx := hrx.below hb
 replace hB := hB.trans (hb.mono hB.size)
 obtain ⟨kbx, hkbx⟩ : ∃ z, z = w2.heap.size := ⟨_, rfl⟩
 rw [← hkbx] at bx ⊢
 clear hb hkbx
 generalize w2.alloc (.cells #[.int .i64 X.atom.kind, .string X.atom.a.name, .slice d2 X.atom.a.kids.length e2, .string X.atom.b.name, .slice d4 X.atom.b.kids.length e4, .slice d5 X.atom.nums.length e5, .slice d6 X.atom.times.length e6, .int .i64 X.atom.bound, .bool X.atom.strict, .bool X.no] 30) = W2 at *
 have x0 := bl.2.1 0 _ rfl; have x1 := bl.2.1 1 _ rfl; have x2 := bl.2.1 2 _ rfl; have x3 := bl.2.1 3 _ rfl; have x4 := bl.2.1 4 _ rfl; have x5 := bl.2.1 5 _ rfl; have x6 := bl.2.1 6 _ rfl; have x7 := bl.2.1 7 _ rfl; have x8 := bl.2.1 8 _ rfl; have x9 := bl.2.1 9 _ rfl
 go_wp2_with fail
 refine (zbL (Lt.mk y no) _ _ _ hsmall htl (by exact hl)).mono ?_
 rintro e w3 ⟨vy, fy', rfl, hrz, _, hb⟩
 replace hry := hry.below hb
 replace bl := bl.below hb
 replace hl := hl.below hb
 replace hrx := hrx.below hb
 replace bx := bx.below hb
 replace hB := hB.trans (hb.mono hB.size)
 clear hb
 rw [hX] at hrz
 clear hX
 have hrz9 := hrz
 obtain ⟨g2, h2, _, g4, h4, _, g5, h5, _, g6, h6, _, rfl, _, _, _, _, _, _, _, _, _⟩ := Lt.open hrz9
 clear hrz9
 clear x0 x1 x2 x3 x4 x5 x6 x7 x8 x9
 go_upto_region 6 with fail
 have bz := Box.new w3 [.int .i64 X.atom.kind, .string X.atom.a.name, .slice g2 X.atom.a.kids.length h2, .string X.atom.b.name, .slice g4 X.atom.b.kids.length h4, .slice g5 X.atom.nums.length h5, .slice g6 X.atom.times.length h6, .int .i64 X.atom.bound, .bool X.atom.strict, .bool X.no] 30
 have hb := zc w3 (.cells #[.int .i64 X.atom.kind, .string X.atom.a.name, .slice g2 X.atom.a.kids.length h2, .string X.atom.b.name, .slice g4 X.atom.b.kids.length h4, .slice g5 X.atom.nums.length h5, .slice g6 X.atom.times.length h6, .int .i64 X.atom.bound, .bool X.atom.strict, .bool X.no] 30)
 replace hry := hry.below hb
 replace bl := bl.below hb
 replace hl := hl.below hb
 replace hrx := hrx.below hb
 replace bx := bx.below hb
 replace hrz := hrz.below hb
 replace hB := hB.trans (hb.mono hB.size)
 obtain ⟨kbz, hkbz⟩ : ∃ z, z = w3.heap.size := ⟨_, rfl⟩
 rw [← hkbz] at bz ⊢
 clear hb hkbz
 generalize w3.alloc (.cells #[.int .i64 X.atom.kind, .string X.atom.a.name, .slice g2 X.atom.a.kids.length h2, .string X.atom.b.name, .slice g4 X.atom.b.kids.length h4, .slice g5 X.atom.nums.length h5, .slice g6 X.atom.times.length h6, .int .i64 X.atom.bound, .bool X.atom.strict, .bool X.no] 30) = W3 at *
 have x0 := bl.2.1 0 _ rfl; have x1 := bl.2.1 1 _ rfl; have x2 := bl.2.1 2 _ rfl; have x3 := bl.2.1 3 _ rfl; have x4 := bl.2.1 4 _ rfl; have x5 := bl.2.1 5 _ rfl; have x6 := bl.2.1 6 _ rfl; have x7 := bl.2.1 7 _ rfl; have x8 := bl.2.1 8 _ rfl; have x9 := bl.2.1 9 _ rfl
 have u0 := bx.2.1 0 _ rfl; have u1 := bx.2.1 1 _ rfl; have u2 := bx.2.1 2 _ rfl; have u3 := bx.2.1 3 _ rfl; have u4 := bx.2.1 4 _ rfl; have u5 := bx.2.1 5 _ rfl; have u6 := bx.2.1 6 _ rfl; have u7 := bx.2.1 7 _ rfl; have u8 := bx.2.1 8 _ rfl; have u9 := bx.2.1 9 _ rfl
 have v0 := bz.2.1 0 _ rfl; have v1 := bz.2.1 1 _ rfl; have v2 := bz.2.1 2 _ rfl; have v3 := bz.2.1 3 _ rfl; have v4 := bz.2.1 4 _ rfl; have v5 := bz.2.1 5 _ rfl; have v6 := bz.2.1 6 _ rfl; have v7 := bz.2.1 7 _ rfl; have v8 := bz.2.1 8 _ rfl; have v9 := bz.2.1 9 _ rfl
 have hnn : (X.no != X.no) = false := by simp
 go_wp2_with fail
 refine (za2 X.atom X.atom _ _ _ _ _ (by exact Lt.atom9 (x := X) (vs := [.int .i64 X.atom.kind, .string X.atom.a.name, .slice d2 X.atom.a.kids.length e2, .string X.atom.b.name, .slice d4 X.atom.b.kids.length e4, .slice d5 X.atom.nums.length e5, .slice d6 X.atom.times.length e6, .int .i64 X.atom.bound, .bool X.atom.strict]) hrx rfl) (by exact Lt.atom9 (x := X) (vs := [.int .i64 X.atom.kind, .string X.atom.a.name, .slice g2 X.atom.a.kids.length h2, .string X.atom.b.name, .slice g4 X.atom.b.kids.length h4, .slice g5 X.atom.nums.length h5, .slice g6 X.atom.times.length h6, .int .i64 X.atom.bound, .bool X.atom.strict]) hrz rfl)).mono ?_
 rintro e w4 ⟨rfl, hb⟩
 replace hry := hry.below hb
 replace bl := bl.below hb
 replace hl := hl.below hb
 replace hrx := hrx.below hb
 replace bx := bx.below hb
 replace hrz := hrz.below hb
 replace bz := bz.below hb
 replace hB := hB.trans (hb.mono hB.size)
 clear hb
 rw [zan]
 clear x0 x1 x2 x3 x4 x5 x6 x7 x8 x9 u0 u1 u2 u3 u4 u5 u6 u7 u8 u9 v0 v1 v2 v3 v4 v5 v6 v7 v8 v9
 have x0 := bl.2.1 0 _ rfl; have x1 := bl.2.1 1 _ rfl; have x2 := bl.2.1 2 _ rfl; have x3 := bl.2.1 3 _ rfl; have x4 := bl.2.1 4 _ rfl; have x5 := bl.2.1 5 _ rfl; have x6 := bl.2.1 6 _ rfl; have x7 := bl.2.1 7 _ rfl; have x8 := bl.2.1 8 _ rfl; have x9 := bl.2.1 9 _ rfl
 go_upto_region 8 with fail
 have hTab := htab.below hB
 cases hok : y.okB
 ·have HZ : Hid (X = Lt.zero) := Lib.hid (by rw [← HX.out]; exact Lt.not_no hok)
  have HTM := Lib.hid (Lt.tms_no (x := Lt.mk y no) hok)
  have hxn : X.no = false := by rw [HZ.out]; rfl
  have h9 := zaB y _ _ w4 hsmall (by exact hry) hTab
  rw [if_neg (by rw [hok]; decide)] at h9
  clear hok
  go_wp2_with fail
  refine (h9).mono ?_
  rintro e w5 ⟨rfl, hb⟩
  replace hry := hry.below hb
  replace bl := bl.below hb
  replace hl := hl.below hb
  replace hrx := hrx.below hb
  replace bx := bx.below hb
  replace hrz := hrz.below hb
  replace bz := bz.below hb
  replace hB := hB.trans (hb.mono hB.size)
  clear hb
  clear x0 x1 x2 x3 x4 x5 x6 x7 x8 x9
  clear h9
  have x0 := bl.2.1 0 _ rfl; have x1 := bl.2.1 1 _ rfl; have x2 := bl.2.1 2 _ rfl; have x3 := bl.2.1 3 _ rfl; have x4 := bl.2.1 4 _ rfl; have x5 := bl.2.1 5 _ rfl; have x6 := bl.2.1 6 _ rfl; have x7 := bl.2.1 7 _ rfl; have x8 := bl.2.1 8 _ rfl; have x9 := bl.2.1 9 _ rfl
  have u0 := bx.2.1 0 _ rfl; have u1 := bx.2.1 1 _ rfl; have u2 := bx.2.1 2 _ rfl; have u3 := bx.2.1 3 _ rfl; have u4 := bx.2.1 4 _ rfl; have u5 := bx.2.1 5 _ rfl; have u6 := bx.2.1 6 _ rfl; have u7 := bx.2.1 7 _ rfl; have u8 := bx.2.1 8 _ rfl; have u9 := bx.2.1 9 _ rfl
  go_wp2_with fail
  refine (za2 X.atom Lt.zero.atom _ _ _ _ _ (by exact Lt.atom9 (x := X) (vs := [.int .i64 X.atom.kind, .string X.atom.a.name, .slice d2 X.atom.a.kids.length e2, .string X.atom.b.name, .slice d4 X.atom.b.kids.length e4, .slice d5 X.atom.nums.length e5, .slice d6 X.atom.times.length e6, .int .i64 X.atom.bound, .bool X.atom.strict]) hrx rfl) (by exact Lt.atom9 (x := Lt.zero) (vs := [.int .i64 0, .string ⟨#[]⟩, .slice none 0 0, .string ⟨#[]⟩, .slice none 0 0, .slice none 0 0, .slice none 0 0, .int .i64 0, .bool false]) (Lt.zero_rd _) rfl)).mono ?_
  rintro e w6 ⟨rfl, hb⟩
  replace hry := hry.below hb
  replace bl := bl.below hb
  replace hl := hl.below hb
  replace hrx := hrx.below hb
  replace bx := bx.below hb
  replace hrz := hrz.below hb
  replace bz := bz.below hb
  replace hB := hB.trans (hb.mono hB.size)
  clear hb
  rw [show eqV X.atom.cd Lt.zero.atom.cd = true from by rw [HZ.out]; exact zan _]
  clear x0 x1 x2 x3 x4 x5 x6 x7 x8 x9 u0 u1 u2 u3 u4 u5 u6 u7 u8 u9
  have x0 := bl.2.1 0 _ rfl; have x1 := bl.2.1 1 _ rfl; have x2 := bl.2.1 2 _ rfl; have x3 := bl.2.1 3 _ rfl; have x4 := bl.2.1 4 _ rfl; have x5 := bl.2.1 5 _ rfl; have x6 := bl.2.1 6 _ rfl; have x7 := bl.2.1 7 _ rfl; have x8 := bl.2.1 8 _ rfl; have x9 := bl.2.1 9 _ rfl
  go_wp2_with fail
  refine (zam (Lt.mk y no) _ _ _ hsmall (by exact hl)).mono ?_
  rintro e w7 ⟨kv, fk, rfl, hrk, _, hb⟩
  replace hry := hry.below hb
  replace bl := bl.below hb
  replace hl := hl.below hb
  replace hrx := hrx.below hb
  replace bx := bx.below hb
  replace hrz := hrz.below hb
  replace bz := bz.below hb
  replace hB := hB.trans (hb.mono hB.size)
  clear hb
  rw [HTM.out] at hrk
  obtain ⟨ka, kc, rfl, _, _⟩ := zM hrk
  simp only [List.length_nil]
  go_wp2_with fail
  go_ret
  exact ⟨rfl, hB⟩
 have HXY : Hid (X = Lt.mk y (!no)) := Lib.hid (by rw [← HX.out]; exact Lt.not_yes hok)
 have HOX : Hid (X.atom.okB = true) := Lib.hid (by rw [HXY.out]; exact hok)
 have HT := Lib.hid (Lt.tms_yes (x := Lt.mk y no) hok)
 have HTX : Hid (X.tms = y.tms) := Lib.hid (by rw [HXY.out]; exact Lt.tms_yes (x := Lt.mk y (!no)) hok)
 have hsX : X.atom.small := by rw [HXY.out]; exact hsmall
 have htX : X.atom.times.length ≤ 1048576 := by rw [HXY.out]; exact htl
 have hpos := Atm.tms_pos hok
 have hxl : (X.no != no) = true := by rw [HXY.out]; cases no <;> rfl
 have hxl2 : (X.no == no) = false := by rw [HXY.out]; cases no <;> rfl
 obtain ⟨tx, htx⟩ : ∃ tx, y.text = tx := ⟨_, rfl⟩
 have hne := y.text_ne
 rw [htx] at hne
 have hne3 : tx.toList.isEmpty = false := by rw [List.isEmpty_eq_false_iff]; exact fun h => hne (zaR.1 (by rw [h, ByteArray.toList_eq]))
 have h9 := zaB y _ _ w4 hsmall (by exact hry) hTab
 rw [if_pos hok, htx] at h9
 obtain ⟨Z, hZ⟩ : ∃ Z, X.not = Z := ⟨_, rfl⟩
 have HZL : Hid (Z = Lt.mk y no) := Lib.hid (by rw [← hZ, Lt.not_yes HOX.out, HXY.out]; simp)
 have hzl : (Z.no == no) = true := by rw [HZL.out]; cases no <;> rfl
 obtain ⟨ts, hts⟩ : ∃ ts, y.tms = ts := ⟨_, rfl⟩
 rw [hts] at hpos
 clear hok htx hne
 go_wp2_with fail
 refine (h9).mono ?_
 rintro e w5 ⟨rfl, hb⟩
 replace hry := hry.below hb
 replace bl := bl.below hb
 replace hl := hl.below hb
 replace hrx := hrx.below hb
 replace bx := bx.below hb
 replace hrz := hrz.below hb
 replace bz := bz.below hb
 replace hB := hB.trans (hb.mono hB.size)
 clear hb
 clear x0 x1 x2 x3 x4 x5 x6 x7 x8 x9
 clear h9
 have u0 := bx.2.1 0 _ rfl; have u1 := bx.2.1 1 _ rfl; have u2 := bx.2.1 2 _ rfl; have u3 := bx.2.1 3 _ rfl; have u4 := bx.2.1 4 _ rfl; have u5 := bx.2.1 5 _ rfl; have u6 := bx.2.1 6 _ rfl; have u7 := bx.2.1 7 _ rfl; have u8 := bx.2.1 8 _ rfl; have u9 := bx.2.1 9 _ rfl
 go_upto_region 10 with fail
 go_wp2_with fail
 refine (zbe X _ _ _ hsX htX (by exact hrx)).mono ?_
 rintro e w6 ⟨vk, fk, rfl, hrk, _, hb⟩
 replace hry := hry.below hb
 replace bl := bl.below hb
 replace hl := hl.below hb
 replace hrx := hrx.below hb
 replace bx := bx.below hb
 replace hrz := hrz.below hb
 replace bz := bz.below hb
 replace hB := hB.trans (hb.mono hB.size)
 clear hb
 rw [hZ] at hrk
 clear hZ
 have hrk9 := hrk
 obtain ⟨k2, l2, _, k4, l4, _, k5, l5, _, k6, l6, _, rfl, _, _, _, _, _, _, _, _, _⟩ := Lt.open hrk9
 clear hrk9
 clear u0 u1 u2 u3 u4 u5 u6 u7 u8 u9
 go_upto_region 11 with fail
 have bk := Box.new w6 [.int .i64 Z.atom.kind, .string Z.atom.a.name, .slice k2 Z.atom.a.kids.length l2, .string Z.atom.b.name, .slice k4 Z.atom.b.kids.length l4, .slice k5 Z.atom.nums.length l5, .slice k6 Z.atom.times.length l6, .int .i64 Z.atom.bound, .bool Z.atom.strict, .bool Z.no] 30
 have hb := zc w6 (.cells #[.int .i64 Z.atom.kind, .string Z.atom.a.name, .slice k2 Z.atom.a.kids.length l2, .string Z.atom.b.name, .slice k4 Z.atom.b.kids.length l4, .slice k5 Z.atom.nums.length l5, .slice k6 Z.atom.times.length l6, .int .i64 Z.atom.bound, .bool Z.atom.strict, .bool Z.no] 30)
 replace hry := hry.below hb
 replace bl := bl.below hb
 replace hl := hl.below hb
 replace hrx := hrx.below hb
 replace bx := bx.below hb
 replace hrz := hrz.below hb
 replace bz := bz.below hb
 replace hrk := hrk.below hb
 replace hB := hB.trans (hb.mono hB.size)
 obtain ⟨kbk, hkbk⟩ : ∃ z, z = w6.heap.size := ⟨_, rfl⟩
 rw [← hkbk] at bk ⊢
 clear hb hkbk
 generalize w6.alloc (.cells #[.int .i64 Z.atom.kind, .string Z.atom.a.name, .slice k2 Z.atom.a.kids.length l2, .string Z.atom.b.name, .slice k4 Z.atom.b.kids.length l4, .slice k5 Z.atom.nums.length l5, .slice k6 Z.atom.times.length l6, .int .i64 Z.atom.bound, .bool Z.atom.strict, .bool Z.no] 30) = W6 at *
 have x0 := bl.2.1 0 _ rfl; have x1 := bl.2.1 1 _ rfl; have x2 := bl.2.1 2 _ rfl; have x3 := bl.2.1 3 _ rfl; have x4 := bl.2.1 4 _ rfl; have x5 := bl.2.1 5 _ rfl; have x6 := bl.2.1 6 _ rfl; have x7 := bl.2.1 7 _ rfl; have x8 := bl.2.1 8 _ rfl; have x9 := bl.2.1 9 _ rfl
 go_wp2_with fail
 refine (zam (Lt.mk y no) _ _ _ hsmall (by exact hl)).mono ?_
 rintro e w7 ⟨kv1, fk1, rfl, hrt1, _, hb⟩
 replace hry := hry.below hb
 replace bl := bl.below hb
 replace hl := hl.below hb
 replace hrx := hrx.below hb
 replace bx := bx.below hb
 replace hrz := hrz.below hb
 replace bz := bz.below hb
 replace hrk := hrk.below hb
 replace bk := bk.below hb
 replace hB := hB.trans (hb.mono hB.size)
 clear hb
 rw [HT.out, hts] at hrt1
 obtain ⟨ta1, tc1, rfl, _, _⟩ := zM hrt1
 clear x0 x1 x2 x3 x4 x5 x6 x7 x8 x9
 have u0 := bx.2.1 0 _ rfl; have u1 := bx.2.1 1 _ rfl; have u2 := bx.2.1 2 _ rfl; have u3 := bx.2.1 3 _ rfl; have u4 := bx.2.1 4 _ rfl; have u5 := bx.2.1 5 _ rfl; have u6 := bx.2.1 6 _ rfl; have u7 := bx.2.1 7 _ rfl; have u8 := bx.2.1 8 _ rfl; have u9 := bx.2.1 9 _ rfl
 go_wp2_with fail
 refine (zam (X) _ _ _ hsX (by exact hrx)).mono ?_
 rintro e w8 ⟨kv2, fk2, rfl, hrt2, _, hb⟩
 replace hry := hry.below hb
 replace bl := bl.below hb
 replace hl := hl.below hb
 replace hrx := hrx.below hb
 replace bx := bx.below hb
 replace hrz := hrz.below hb
 replace bz := bz.below hb
 replace hrk := hrk.below hb
 replace bk := bk.below hb
 replace hrt1 := hrt1.below hb
 replace hB := hB.trans (hb.mono hB.size)
 clear hb
 rw [HTX.out, hts] at hrt2
 obtain ⟨ta2, tc2, rfl, _, _⟩ := zM hrt2
 clear u0 u1 u2 u3 u4 u5 u6 u7 u8 u9
 have x0 := bl.2.1 0 _ rfl; have x1 := bl.2.1 1 _ rfl; have x2 := bl.2.1 2 _ rfl; have x3 := bl.2.1 3 _ rfl; have x4 := bl.2.1 4 _ rfl; have x5 := bl.2.1 5 _ rfl; have x6 := bl.2.1 6 _ rfl; have x7 := bl.2.1 7 _ rfl; have x8 := bl.2.1 8 _ rfl; have x9 := bl.2.1 9 _ rfl
 go_wp2_with fail
 refine (zbk (Lt.mk y no) _ _ _ hsmall (by exact hl)).mono ?_
 rintro e w9 ⟨kv3, fk3, rfl, hrt3, _, hb⟩
 replace hry := hry.below hb
 replace bl := bl.below hb
 replace hl := hl.below hb
 replace hrx := hrx.below hb
 replace bx := bx.below hb
 replace hrz := hrz.below hb
 replace bz := bz.below hb
 replace hrk := hrk.below hb
 replace bk := bk.below hb
 replace hrt1 := hrt1.below hb
 replace hrt2 := hrt2.below hb
 replace hB := hB.trans (hb.mono hB.size)
 clear hb
 rw [HT.out, hts] at hrt3
 obtain ⟨ta3, tc3, rfl, _, _⟩ := zM hrt3
 clear x0 x1 x2 x3 x4 x5 x6 x7 x8 x9
 clear hts
 have hA : TmsR w9 ts (.slice ta1 ts.length tc1) := ⟨_, hrt1⟩
 have hC : TmsR w9 ts (.slice ta2 ts.length tc2) := ⟨_, hrt2⟩
 have hD : TmsR w9 ts (.slice ta3 ts.length tc3) := ⟨_, hrt3⟩
 have hln := zbs hrt1
 have hll : ((ts.length : Int) != (ts.length : Int)) = false := by simp
 have hl1 : decide ((ts.length : Int) < 1) = false := decide_eq_false (by omega)
 clear hrt1 hrt2 hrt3
 go_wp2_with fail
 go_loopw [10] (fun i wr => ∃ k : Nat, k ≤ ts.length ∧ i = .int .i64 k ∧ Below w9.heap.size w9 wr) (fun i _ => ts.length - (intOf i).toNat)
 case atStart => exact ⟨0, Nat.zero_le _, rfl, Below.refl _ _⟩
 case round =>
  obtain ⟨k, hkl, rfl, hb⟩ := hrel
  have hz := hb.size
  by_cases hlt : k < ts.length
  ·skip
   obtain ⟨b1, o1, rfl, hbs1⟩ := hA.addr (by omega)
   obtain ⟨b2, o2, rfl, hbs2⟩ := hC.addr (by omega)
   obtain ⟨b3, o3, rfl, hbs3⟩ := hD.addr (by omega)
   obtain ⟨i1, j1, p0, p1, s1, f1, r1⟩ := (hA.below hb).at hlt
   obtain ⟨i2, j2, p2, p3, s2, f2, r2⟩ := (hC.below hb).at hlt
   obtain ⟨i3, j3, p4, p5, s3, f3, r3⟩ := (hD.below hb).at hlt
   have H1 : Hid (∀ W, Below wr.heap.size wr W → Calls Tryd.prog 13 #[.agg #[.string ts[k].name, .slice i1 ts[k].kids.length j1], .agg #[.string ts[k].name, .slice i2 ts[k].kids.length j2]] W fun e w' => e = .returned (.bool true) ∧ Below W.heap.size W w') := Lib.hid (fun W hW => by
    have h9 := zaQ ts[k] ts[k] _ _ _ _ W ((Tm.rdv s1 r1).below hW) ((Tm.rdv s2 r2).below hW)
    rw [zan] at h9
    exact h9)
   have H2 : Hid (∀ W, Below wr.heap.size wr W → Calls Tryd.prog 13 #[.agg #[.string ts[k].name, .slice i1 ts[k].kids.length j1], .agg #[.string ts[k].name, .slice i3 ts[k].kids.length j3]] W fun e w' => e = .returned (.bool true) ∧ Below W.heap.size W w') := Lib.hid (fun W hW => by
    have h9 := zaQ ts[k] ts[k] _ _ _ _ W ((Tm.rdv s1 r1).below hW) ((Tm.rdv s3 r3).below hW)
    rw [zan] at h9
    exact h9)
   go_upto_region 19 with fail
   have q0 := cell_regrown p0; have q1 := cell_regrown p1; have q2 := cell_regrown p2; have q3 := cell_regrown p3; have q4 := cell_regrown p4; have q5 := cell_regrown p5
   refine wp_region_quiet_below (by kernel_rfl) (by kernel_rfl) ?_
   repeat (first | go_big_quiet_skip | quiet_step (first | (go_at_call 13; with_reducible refine Calls.regrown_of (H1.out _ (below_regrown _ _ _))) | (go_at_call 13; with_reducible refine Calls.regrown_of (H2.out _ (below_regrown _ _ _)))))
   refine wpQuiet_nil ?_
   intro w10 hw7
   obtain ⟨⟨dq, osq⟩, hw7⟩ := hw7
   have hb7 : Below wr.heap.size wr w10 := hw7 ▸ below_regrown wr dq osq
   clear hw7 q0 q1 q2 q3 q4 q5
   go_wp2_with fail
   go_roundw
   case rel => exact ⟨k + 1, by omega, by go_num, hb.trans (hb7.mono hz)⟩
   case measure => simp [intOf]; omega
  ·skip
   have hBk := hB.trans (hb.mono hB.size)
   have blk := bl.below hb
   have bxk := bx.below hb
   have bkk := bk.below hb
   have x0 := blk.2.1 0 _ rfl; have x1 := blk.2.1 1 _ rfl; have x2 := blk.2.1 2 _ rfl; have x3 := blk.2.1 3 _ rfl; have x4 := blk.2.1 4 _ rfl; have x5 := blk.2.1 5 _ rfl; have x6 := blk.2.1 6 _ rfl; have x7 := blk.2.1 7 _ rfl; have x8 := blk.2.1 8 _ rfl; have x9 := blk.2.1 9 _ rfl
   have v0 := bkk.2.1 0 _ rfl; have v1 := bkk.2.1 1 _ rfl; have v2 := bkk.2.1 2 _ rfl; have v3 := bkk.2.1 3 _ rfl; have v4 := bkk.2.1 4 _ rfl; have v5 := bkk.2.1 5 _ rfl; have v6 := bkk.2.1 6 _ rfl; have v7 := bkk.2.1 7 _ rfl; have v8 := bkk.2.1 8 _ rfl; have v9 := bkk.2.1 9 _ rfl
   have u9 := bxk.2.1 9 _ rfl
   go_wp2_with fail
   refine (za2 Z.atom y _ _ _ _ _ (by exact Lt.atom9 (x := Z) (vs := [.int .i64 Z.atom.kind, .string Z.atom.a.name, .slice k2 Z.atom.a.kids.length l2, .string Z.atom.b.name, .slice k4 Z.atom.b.kids.length l4, .slice k5 Z.atom.nums.length l5, .slice k6 Z.atom.times.length l6, .int .i64 Z.atom.bound, .bool Z.atom.strict]) (hrk.below hb) rfl) (by exact hry.below hb)).mono ?_
   rintro e w11 ⟨rfl, hb11⟩
   rw [show eqV Z.atom.cd y.cd = true from by rw [HZL.out]; exact zan _]
   replace hBk := hBk.trans (hb11.mono hBk.size)
   replace blk := blk.below hb11
   replace bxk := bxk.below hb11
   clear x0 x1 x2 x3 x4 x5 x6 x7 x8 x9 v0 v1 v2 v3 v4 v5 v6 v7 v8 v9 u9 hb11
   have x9 := blk.2.1 9 _ rfl
   have u9 := bxk.2.1 9 _ rfl
   go_wp2_with fail
   go_ret
   exact ⟨rfl, hBk⟩
end Go.Proofs.YtoehhbkhdddeeaaDoor
end
