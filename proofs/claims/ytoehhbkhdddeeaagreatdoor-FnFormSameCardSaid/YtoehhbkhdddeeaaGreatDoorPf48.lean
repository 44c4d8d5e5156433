/- Parts of the proof: LawFormSameD. -/
import Derived.Test.YtoehhbkhdddeeaaGreatDoorPf43
import Derived.Test.YtoehhbkhdddeeaaGreatDoorPf46
import Derived.Test.YtoehhbkhdddeeaaGreatDoorPf47
import Derived.Test.YtoehhbkhdddeeaaGreatDoorPf20
section
namespace Go.Proofs.YtoehhbkhdddeeaaGreatDoor
open Go Go.RowKit
set_option linter.unusedVariables false
set_option linter.unusedSimpArgs false
set_option maxRecDepth 100000
set_option maxHeartbeats 16000000
theorem zbD (x y : Fm) (b : Bool) (h : eqV x.cd y.cd = b) (vs us : List Value) (f f' : List Nat) (w : World) (hv : RdVs w x.cd vs f) (hx : RdVs w y.cd us f') :
  Calls Tryz.prog 5 #[.agg vs.toArray, .agg us.toArray] w fun e w' => e = .returned (.bool b) ∧ Below w.heap.size w w' := by subst h; exact sameFm_x x y vs us f f' w hv hx
theorem zdJ (x y : Fm) (b : Bool) (h : eqV x.cd y.cd = b) (vs us : List Value) (f f' : List Nat) (w : World) (hv : RdVs w x.cd vs f) (hx : RdVs w y.cd us f') :
  Calls Tryz.prog 6 #[.agg vs.toArray, .agg us.toArray] w fun e w' => e = .returned (.bool b) ∧ Below w.heap.size w w' := by subst h; exact sameFmS_x x y vs us f f' w hv hx
theorem zbf (f : Fm) (s : ByteArray) (h : (if f.okF = true then f.text else ⟨#[]⟩) = s) (vs : List Value) (ff : List Nat) (w : World) (hbig : wtV f.cd ≤ 1048576) (hv : RdVs w f.cd vs ff) (htab : Tab9 w) :
  Calls Tryz.prog 7 #[.agg vs.toArray] w fun e w' => e = .returned (.string s) ∧ Below w.heap.size w w' := by subst h; exact zb6 f vs ff w hbig hv htab
theorem zcx {s : ByteArray} (h : s ≠ ⟨#[]⟩) : s.toList.isEmpty = false := by
 cases hl : s.toList with
 | nil =>
  rw [ByteArray.toList_eq] at hl
  exact absurd (Tm.bytes_eq (by rw [hl])) h
 | cons a l => rfl
theorem str_beq (s t : ByteArray) : (s.toList == t.toList) = decide (s = t) := by
 rw [Bool.eq_iff_iff, beq_iff_eq, decide_eq_true_eq, ByteArray.toList_eq, ByteArray.toList_eq]
 exact ⟨fun h => Tm.bytes_eq h, fun h => by rw [h]⟩
theorem zbi (v : Value) (w : World) (hv : Byts w v) (htab : Tab9 w) :
  Calls Tryz.prog 3 #[v] w fun e w' => e = .returned (.bool true) ∧ Below w.heap.size w w' := by
 have hv0 := hv
 obtain ⟨a9, n, cap, rfl, hn1, hn2, _⟩ := hv
 by_cases hlen : n ≤ 1048576
 rotate_left
 ·have hlb0 : decide ((1048576 : Int) < (n : Int)) = true := decide_eq_true (by omega)
  go_enter Tryz.func3, Tryz.ntmps3
  go_wp2_with fail
  go_ret
  exact ⟨rfl, Below.refl _ _⟩
 have hlb0 : decide ((1048576 : Int) < (n : Int)) = false := decide_eq_false (by omega)
 go_enter Tryz.func3, Tryz.ntmps3
 go_wp2_with fail
 refine (zbh _ _ hv0).mono ?_
 rintro e w1 ⟨⟨f, g, b3, d3, b5, d5, b6, d6, b7, d7, b11, d11, p3, q3, p5, q5, p6, q6, p7, q7, p11, q11, ff, gf, hwf, hwg, rfl, hrf, hrg⟩, hB⟩
 obtain ⟨fB, hfB⟩ : ∃ F, F = w1.heap.size := ⟨_, rfl⟩
 obtain ⟨gB, hgB⟩ : ∃ G, G = fB + 1 := ⟨_, rfl⟩
 have hF := (Box.new w1 [.int .i64 f.kind, .int .i64 f.lit.atom.kind, .string f.lit.atom.a.name, .slice b3 f.lit.atom.a.kids.length d3, .string f.lit.atom.b.name, .slice b5 f.lit.atom.b.kids.length d5, .slice b6 f.lit.atom.nums.length d6, .slice b7 f.lit.atom.times.length d7, .int .i64 f.lit.atom.bound, .bool f.lit.atom.strict, .bool f.lit.no, .slice b11 f.kids.length d11] 33).alloc (.cells #[.int .i64 g.kind, .int .i64 g.lit.atom.kind, .string g.lit.atom.a.name, .slice p3 g.lit.atom.a.kids.length q3, .string g.lit.atom.b.name, .slice p5 g.lit.atom.b.kids.length q5, .slice p6 g.lit.atom.nums.length q6, .slice p7 g.lit.atom.times.length q7, .int .i64 g.lit.atom.bound, .bool g.lit.atom.strict, .bool g.lit.no, .slice p11 g.kids.length q11] 33)
 have hG := Box.new (w1.alloc (.cells #[.int .i64 f.kind, .int .i64 f.lit.atom.kind, .string f.lit.atom.a.name, .slice b3 f.lit.atom.a.kids.length d3, .string f.lit.atom.b.name, .slice b5 f.lit.atom.b.kids.length d5, .slice b6 f.lit.atom.nums.length d6, .slice b7 f.lit.atom.times.length d7, .int .i64 f.lit.atom.bound, .bool f.lit.atom.strict, .bool f.lit.no, .slice b11 f.kids.length d11] 33)) [.int .i64 g.kind, .int .i64 g.lit.atom.kind, .string g.lit.atom.a.name, .slice p3 g.lit.atom.a.kids.length q3, .string g.lit.atom.b.name, .slice p5 g.lit.atom.b.kids.length q5, .slice p6 g.lit.atom.nums.length q6, .slice p7 g.lit.atom.times.length q7, .int .i64 g.lit.atom.bound, .bool g.lit.atom.strict, .bool g.lit.no, .slice p11 g.kids.length q11] 33
 rw [World.size_alloc] at hG
 rw [← hfB, ← hgB] at hG
 rw [← hfB] at hF
 go_upto_region 4 with fail
 try rw [← hfB]
 try rw [← hgB]
 have hba : Below w1.heap.size w1 ((w1.alloc (.cells #[.int .i64 f.kind, .int .i64 f.lit.atom.kind, .string f.lit.atom.a.name, .slice b3 f.lit.atom.a.kids.length d3, .string f.lit.atom.b.name, .slice b5 f.lit.atom.b.kids.length d5, .slice b6 f.lit.atom.nums.length d6, .slice b7 f.lit.atom.times.length d7, .int .i64 f.lit.atom.bound, .bool f.lit.atom.strict, .bool f.lit.no, .slice b11 f.kids.length d11] 33)).alloc (.cells #[.int .i64 g.kind, .int .i64 g.lit.atom.kind, .string g.lit.atom.a.name, .slice p3 g.lit.atom.a.kids.length q3, .string g.lit.atom.b.name, .slice p5 g.lit.atom.b.kids.length q5, .slice p6 g.lit.atom.nums.length q6, .slice p7 g.lit.atom.times.length q7, .int .i64 g.lit.atom.bound, .bool g.lit.atom.strict, .bool g.lit.no, .slice p11 g.kids.length q11] 33)) := ((Below.refl _ _).alloc (Nat.le_refl _) _).alloc (by simp) _
 replace hrf := hrf.below hba
 replace hrg := hrg.below hba
 replace hB := hB.trans (hba.mono hB.size)
 clear hba hfB hgB
 generalize (w1.alloc (.cells #[.int .i64 f.kind, .int .i64 f.lit.atom.kind, .string f.lit.atom.a.name, .slice b3 f.lit.atom.a.kids.length d3, .string f.lit.atom.b.name, .slice b5 f.lit.atom.b.kids.length d5, .slice b6 f.lit.atom.nums.length d6, .slice b7 f.lit.atom.times.length d7, .int .i64 f.lit.atom.bound, .bool f.lit.atom.strict, .bool f.lit.no, .slice b11 f.kids.length d11] 33)).alloc (.cells #[.int .i64 g.kind, .int .i64 g.lit.atom.kind, .string g.lit.atom.a.name, .slice p3 g.lit.atom.a.kids.length q3, .string g.lit.atom.b.name, .slice p5 g.lit.atom.b.kids.length q5, .slice p6 g.lit.atom.nums.length q6, .slice p7 g.lit.atom.times.length q7, .int .i64 g.lit.atom.bound, .bool g.lit.atom.strict, .bool g.lit.no, .slice p11 g.kids.length q11] 33) = w2 at *
 obtain ⟨ok, HI⟩ : ∃ a, Hid (eqV f.cd g.cd = a) := ⟨_, Lib.hid rfl⟩
 have HJ : Hid (eqV g.cd f.cd = ok) := Lib.hid (by rw [zdf]; exact HI.out)
 have HE : Hid (eqV f.cd f.cd = true) := Lib.hid (by rw [zac])
 have n1 : (ok != ok) = false := by cases ok <;> rfl
 have n2 : (ok == ok) = true := by cases ok <;> rfl
 have x0 := hF.2.1 0 _ rfl; have x1 := hF.2.1 1 _ rfl; have x2 := hF.2.1 2 _ rfl; have x3 := hF.2.1 3 _ rfl; have x4 := hF.2.1 4 _ rfl; have x5 := hF.2.1 5 _ rfl; have x6 := hF.2.1 6 _ rfl; have x7 := hF.2.1 7 _ rfl; have x8 := hF.2.1 8 _ rfl; have x9 := hF.2.1 9 _ rfl; have x10 := hF.2.1 10 _ rfl; have x11 := hF.2.1 11 _ rfl; have y0 := hG.2.1 0 _ rfl; have y1 := hG.2.1 1 _ rfl; have y2 := hG.2.1 2 _ rfl; have y3 := hG.2.1 3 _ rfl; have y4 := hG.2.1 4 _ rfl; have y5 := hG.2.1 5 _ rfl; have y6 := hG.2.1 6 _ rfl; have y7 := hG.2.1 7 _ rfl; have y8 := hG.2.1 8 _ rfl; have y9 := hG.2.1 9 _ rfl; have y10 := hG.2.1 10 _ rfl; have y11 := hG.2.1 11 _ rfl
 go_wp2_with fail
 refine (zbD f g ok HI.out _ _ _ _ _ (by exact hrf) (by exact hrg)).mono ?_
 rintro e v1 ⟨rfl, hb1⟩
 clear x0 x1 x2 x3 x4 x5 x6 x7 x8 x9 x10 x11 y0 y1 y2 y3 y4 y5 y6 y7 y8 y9 y10 y11
 replace hF := hF.below hb1
 replace hG := hG.below hb1
 replace hrf := hrf.below hb1
 replace hrg := hrg.below hb1
 replace hB := hB.trans (hb1.mono hB.size)
 clear hb1
 have x0 := hF.2.1 0 _ rfl; have x1 := hF.2.1 1 _ rfl; have x2 := hF.2.1 2 _ rfl; have x3 := hF.2.1 3 _ rfl; have x4 := hF.2.1 4 _ rfl; have x5 := hF.2.1 5 _ rfl; have x6 := hF.2.1 6 _ rfl; have x7 := hF.2.1 7 _ rfl; have x8 := hF.2.1 8 _ rfl; have x9 := hF.2.1 9 _ rfl; have x10 := hF.2.1 10 _ rfl; have x11 := hF.2.1 11 _ rfl; have y0 := hG.2.1 0 _ rfl; have y1 := hG.2.1 1 _ rfl; have y2 := hG.2.1 2 _ rfl; have y3 := hG.2.1 3 _ rfl; have y4 := hG.2.1 4 _ rfl; have y5 := hG.2.1 5 _ rfl; have y6 := hG.2.1 6 _ rfl; have y7 := hG.2.1 7 _ rfl; have y8 := hG.2.1 8 _ rfl; have y9 := hG.2.1 9 _ rfl; have y10 := hG.2.1 10 _ rfl; have y11 := hG.2.1 11 _ rfl
 go_wp2_with fail
 refine (zdJ f g ok HI.out _ _ _ _ _ (by exact hrf) (by exact hrg)).mono ?_
 rintro e v2 ⟨rfl, hb2⟩
 clear x0 x1 x2 x3 x4 x5 x6 x7 x8 x9 x10 x11 y0 y1 y2 y3 y4 y5 y6 y7 y8 y9 y10 y11
 replace hF := hF.below hb2
 replace hG := hG.below hb2
 replace hrf := hrf.below hb2
 replace hrg := hrg.below hb2
 replace hB := hB.trans (hb2.mono hB.size)
 clear hb2
 have x0 := hF.2.1 0 _ rfl; have x1 := hF.2.1 1 _ rfl; have x2 := hF.2.1 2 _ rfl; have x3 := hF.2.1 3 _ rfl; have x4 := hF.2.1 4 _ rfl; have x5 := hF.2.1 5 _ rfl; have x6 := hF.2.1 6 _ rfl; have x7 := hF.2.1 7 _ rfl; have x8 := hF.2.1 8 _ rfl; have x9 := hF.2.1 9 _ rfl; have x10 := hF.2.1 10 _ rfl; have x11 := hF.2.1 11 _ rfl; have y0 := hG.2.1 0 _ rfl; have y1 := hG.2.1 1 _ rfl; have y2 := hG.2.1 2 _ rfl; have y3 := hG.2.1 3 _ rfl; have y4 := hG.2.1 4 _ rfl; have y5 := hG.2.1 5 _ rfl; have y6 := hG.2.1 6 _ rfl; have y7 := hG.2.1 7 _ rfl; have y8 := hG.2.1 8 _ rfl; have y9 := hG.2.1 9 _ rfl; have y10 := hG.2.1 10 _ rfl; have y11 := hG.2.1 11 _ rfl
 go_wp2_with fail
 refine (zbD g f ok HJ.out _ _ _ _ _ (by exact hrg) (by exact hrf)).mono ?_
 rintro e v3 ⟨rfl, hb3⟩
 clear x0 x1 x2 x3 x4 x5 x6 x7 x8 x9 x10 x11 y0 y1 y2 y3 y4 y5 y6 y7 y8 y9 y10 y11
 replace hF := hF.below hb3
 replace hG := hG.below hb3
 replace hrf := hrf.below hb3
 replace hrg := hrg.below hb3
 replace hB := hB.trans (hb3.mono hB.size)
 clear hb3
 have x0 := hF.2.1 0 _ rfl; have x1 := hF.2.1 1 _ rfl; have x2 := hF.2.1 2 _ rfl; have x3 := hF.2.1 3 _ rfl; have x4 := hF.2.1 4 _ rfl; have x5 := hF.2.1 5 _ rfl; have x6 := hF.2.1 6 _ rfl; have x7 := hF.2.1 7 _ rfl; have x8 := hF.2.1 8 _ rfl; have x9 := hF.2.1 9 _ rfl; have x10 := hF.2.1 10 _ rfl; have x11 := hF.2.1 11 _ rfl; have y0 := hG.2.1 0 _ rfl; have y1 := hG.2.1 1 _ rfl; have y2 := hG.2.1 2 _ rfl; have y3 := hG.2.1 3 _ rfl; have y4 := hG.2.1 4 _ rfl; have y5 := hG.2.1 5 _ rfl; have y6 := hG.2.1 6 _ rfl; have y7 := hG.2.1 7 _ rfl; have y8 := hG.2.1 8 _ rfl; have y9 := hG.2.1 9 _ rfl; have y10 := hG.2.1 10 _ rfl; have y11 := hG.2.1 11 _ rfl
 go_wp2_with fail
 refine (zbD f f true HE.out _ _ _ _ _ (by exact hrf) (by exact hrf)).mono ?_
 rintro e v4 ⟨rfl, hb4⟩
 clear x0 x1 x2 x3 x4 x5 x6 x7 x8 x9 x10 x11 y0 y1 y2 y3 y4 y5 y6 y7 y8 y9 y10 y11
 replace hF := hF.below hb4
 replace hG := hG.below hb4
 replace hrf := hrf.below hb4
 replace hrg := hrg.below hb4
 replace hB := hB.trans (hb4.mono hB.size)
 clear hb4
 have x0 := hF.2.1 0 _ rfl; have x1 := hF.2.1 1 _ rfl; have x2 := hF.2.1 2 _ rfl; have x3 := hF.2.1 3 _ rfl; have x4 := hF.2.1 4 _ rfl; have x5 := hF.2.1 5 _ rfl; have x6 := hF.2.1 6 _ rfl; have x7 := hF.2.1 7 _ rfl; have x8 := hF.2.1 8 _ rfl; have x9 := hF.2.1 9 _ rfl; have x10 := hF.2.1 10 _ rfl; have x11 := hF.2.1 11 _ rfl; have y0 := hG.2.1 0 _ rfl; have y1 := hG.2.1 1 _ rfl; have y2 := hG.2.1 2 _ rfl; have y3 := hG.2.1 3 _ rfl; have y4 := hG.2.1 4 _ rfl; have y5 := hG.2.1 5 _ rfl; have y6 := hG.2.1 6 _ rfl; have y7 := hG.2.1 7 _ rfl; have y8 := hG.2.1 8 _ rfl; have y9 := hG.2.1 9 _ rfl; have y10 := hG.2.1 10 _ rfl; have y11 := hG.2.1 11 _ rfl
 obtain ⟨s, HS⟩ : ∃ s, Hid ((if f.okF = true then f.text else ⟨#[]⟩) = s) := ⟨_, Lib.hid rfl⟩
 obtain ⟨t, HT⟩ : ∃ t, Hid ((if g.okF = true then g.text else ⟨#[]⟩) = t) := ⟨_, Lib.hid rfl⟩
 go_wp2_with fail
 refine (zbf f s HS.out _ _ _ (by omega) (by exact hrf) (htab.below hB)).mono ?_
 rintro e v5 ⟨rfl, hb5⟩
 clear x0 x1 x2 x3 x4 x5 x6 x7 x8 x9 x10 x11 y0 y1 y2 y3 y4 y5 y6 y7 y8 y9 y10 y11
 replace hF := hF.below hb5
 replace hG := hG.below hb5
 replace hrf := hrf.below hb5
 replace hrg := hrg.below hb5
 replace hB := hB.trans (hb5.mono hB.size)
 clear hb5
 have x0 := hF.2.1 0 _ rfl; have x1 := hF.2.1 1 _ rfl; have x2 := hF.2.1 2 _ rfl; have x3 := hF.2.1 3 _ rfl; have x4 := hF.2.1 4 _ rfl; have x5 := hF.2.1 5 _ rfl; have x6 := hF.2.1 6 _ rfl; have x7 := hF.2.1 7 _ rfl; have x8 := hF.2.1 8 _ rfl; have x9 := hF.2.1 9 _ rfl; have x10 := hF.2.1 10 _ rfl; have x11 := hF.2.1 11 _ rfl; have y0 := hG.2.1 0 _ rfl; have y1 := hG.2.1 1 _ rfl; have y2 := hG.2.1 2 _ rfl; have y3 := hG.2.1 3 _ rfl; have y4 := hG.2.1 4 _ rfl; have y5 := hG.2.1 5 _ rfl; have y6 := hG.2.1 6 _ rfl; have y7 := hG.2.1 7 _ rfl; have y8 := hG.2.1 8 _ rfl; have y9 := hG.2.1 9 _ rfl; have y10 := hG.2.1 10 _ rfl; have y11 := hG.2.1 11 _ rfl
 go_wp2_with fail
 refine (zbf g t HT.out _ _ _ (by omega) (by exact hrg) (htab.below hB)).mono ?_
 rintro e v6 ⟨rfl, hb6⟩
 clear x0 x1 x2 x3 x4 x5 x6 x7 x8 x9 x10 x11 y0 y1 y2 y3 y4 y5 y6 y7 y8 y9 y10 y11
 replace hF := hF.below hb6
 replace hG := hG.below hb6
 replace hrf := hrf.below hb6
 replace hrg := hrg.below hb6
 replace hB := hB.trans (hb6.mono hB.size)
 clear hb6
 have x0 := hF.2.1 0 _ rfl; have x1 := hF.2.1 1 _ rfl; have x2 := hF.2.1 2 _ rfl; have x3 := hF.2.1 3 _ rfl; have x4 := hF.2.1 4 _ rfl; have x5 := hF.2.1 5 _ rfl; have x6 := hF.2.1 6 _ rfl; have x7 := hF.2.1 7 _ rfl; have x8 := hF.2.1 8 _ rfl; have x9 := hF.2.1 9 _ rfl; have x10 := hF.2.1 10 _ rfl; have x11 := hF.2.1 11 _ rfl; have y0 := hG.2.1 0 _ rfl; have y1 := hG.2.1 1 _ rfl; have y2 := hG.2.1 2 _ rfl; have y3 := hG.2.1 3 _ rfl; have y4 := hG.2.1 4 _ rfl; have y5 := hG.2.1 5 _ rfl; have y6 := hG.2.1 6 _ rfl; have y7 := hG.2.1 7 _ rfl; have y8 := hG.2.1 8 _ rfl; have y9 := hG.2.1 9 _ rfl; have y10 := hG.2.1 10 _ rfl; have y11 := hG.2.1 11 _ rfl
 clear x0 x1 x2 x3 x4 x5 x6 x7 x8 x9 x10 x11 y0 y1 y2 y3 y4 y5 y6 y7 y8 y9 y10 y11 n1
 cases hof : f.okF
 ·have hs : s = ⟨#[]⟩ := by rw [← HS.out, if_neg (by rw [hof]; decide)]
  subst hs
  go_wp2_with fail
  go_ret
  exact ⟨rfl, hB⟩
 ·have hs : s = f.text := by rw [← HS.out, if_pos hof]
  have hse := zcx (hs ▸ Fm.text_ne f)
  cases hog : g.okF
  ·have ht : t = ⟨#[]⟩ := by rw [← HT.out, if_neg (by rw [hog]; decide)]
   clear hs hof hog
   subst ht
   go_wp2_with fail
   go_ret
   exact ⟨rfl, hB⟩
  ·have ht : t = g.text := by rw [← HT.out, if_pos hog]
   have hte := zcx (ht ▸ Fm.text_ne g)
   have hst : (s.toList == t.toList) = ok := by rw [str_beq, hs, ht, ← HI.out, Fm.text_iff hof hog]
   clear hs ht hof hog HS HT
   cases ok
   ·go_wp2_with fail
    go_ret
    exact ⟨rfl, hB⟩
   ·go_wp2_with fail
    go_ret
    exact ⟨rfl, hB⟩
end Go.Proofs.YtoehhbkhdddeeaaGreatDoor
end
