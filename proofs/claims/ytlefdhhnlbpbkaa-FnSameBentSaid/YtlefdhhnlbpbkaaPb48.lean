/- Parts of the proof: LawSameBent. -/
import Derived.Test.YtlefdhhnlbpbkaaPb45
import Derived.Test.YtlefdhhnlbpbkaaPb47
import Derived.Test.YtlefdhhnlbpbkaaPb33
import Derived.Test.YtlefdhhnlbpbkaaPb46
import Derived.Test.YtlefdhhnlbpbkaaPb43
import Derived.Test.YtlefdhhnlbpbkaaPb10
section
namespace Go.Proofs.Ytlefdhhnlbpbkaa
open Go Go.RowKit
set_option linter.unusedVariables false
set_option linter.unusedSimpArgs false
set_option maxRecDepth 100000
set_option maxHeartbeats 16000000
theorem zcP {s : Sg} {es : List Eqn} {ms : List Tm} (h : eqsB s es = false) : zX s es ms = false := by unfold zX; rw [h]; simp
theorem zdS {s : Sg} {es : List Eqn} {a b : Tm} (h : eqsB s es = false) : zB s es a b = false := by unfold zB; rw [zcP h]; rfl
theorem whyT_bad {s : Sg} {es : List Eqn} {x : Wy} (h : eqsB s es = false) : whyT s es x = none := by unfold whyT; rw [h]; rfl
theorem sides_13 {es : List Eqn} (hl : es.length ≤ 13) (h : ∀ q ∈ es, q.a.size ≤ 45 ∧ q.b.size ≤ 45) : Tm.sizes (zi es) ≤ 2000 := by
 have h1 := zcs (a := ⟨⟨#[]⟩, []⟩) (b := ⟨⟨#[]⟩, []⟩) hl h (by rw [Tm.size_eq]; simp [Tm.kids, Tm.sizes]) (by rw [Tm.size_eq]; simp [Tm.kids, Tm.sizes])
 rw [Tm.sizes_append] at h1
 omega
theorem zbN (v : Value) (w : World) (hv : Byts w v) :
  Calls Try.prog 3 #[v] w fun e w' => e = .returned (.bool true) ∧ Below w.heap.size w w' := by
 have hv0 := hv
 obtain ⟨a9, n, cap, rfl, hn1, hn2, _⟩ := hv
 by_cases hlen : n ≤ 1048576
 rotate_left
 ·have hlb0 : decide ((1048576 : Int) < (n : Int)) = true := decide_eq_true (by omega)
  go_enter Try.func3, Try.ntmps3
  go_wp2_with fail
  go_ret
  exact ⟨rfl, Below.refl _ _⟩
 have hlb0 : decide ((1048576 : Int) < (n : Int)) = false := decide_eq_false (by omega)
 go_enter Try.func3, Try.ntmps3
 go_wp2_with fail
 refine (zbl _ _ hv0).mono ?_
 rintro e w1 ⟨⟨s, es, r, m, t, ks, sa, sc, ev, a3, c3, a4, c4, sf, ef, wf, hfew, hel, hes, hfit, rfl, hrs, hre, hrw, _, _⟩, hB⟩
 obtain ⟨evA, evC, rfl, hec1, hec2⟩ := zd hre
 have HES := Lib.hid hes
 have hsz := sides_13 hel hes
 clear hfew hes
 obtain ⟨sB, hsB⟩ : ∃ F, F = w1.heap.size := ⟨_, rfl⟩
 obtain ⟨wB, hwB⟩ : ∃ G, G = sB + 1 := ⟨_, rfl⟩
 have hS := (Box.new w1 [.slice sa s.syms.length sc] 25).alloc (.cells #[.int .i64 r, .int .i64 m, .string t.name, .slice a3 t.kids.length c3, .slice a4 ks.length c4] 32)
 have hW := Box.new (w1.alloc (.cells #[.slice sa s.syms.length sc] 25)) [.int .i64 r, .int .i64 m, .string t.name, .slice a3 t.kids.length c3, .slice a4 ks.length c4] 32
 rw [World.size_alloc] at hW
 rw [← hsB, ← hwB] at hW
 rw [← hsB] at hS
 go_upto_region 4 with fail
 try rw [← hsB]
 try rw [← hwB]
 have hba : Below w1.heap.size w1 ((w1.alloc (.cells #[.slice sa s.syms.length sc] 25)).alloc (.cells #[.int .i64 r, .int .i64 m, .string t.name, .slice a3 t.kids.length c3, .slice a4 ks.length c4] 32)) := ((Below.refl _ _).alloc (Nat.le_refl _) _).alloc (by simp) _
 replace hrs := hrs.below hba; replace hre := hre.below hba; replace hrw := hrw.below hba
 replace hB := hB.trans (hba.mono hB.size)
 clear hba hsB hwB
 generalize (w1.alloc (.cells #[.slice sa s.syms.length sc] 25)).alloc (.cells #[.int .i64 r, .int .i64 m, .string t.name, .slice a3 t.kids.length c3, .slice a4 ks.length c4] 32) = w2 at *
 go_wp2_with fail
 refine (zbM _ _ (by exact hv0.below hB)).mono ?_
 rintro e w3 ⟨⟨s2, es2, a, b, ta, tc, ev2, ka, kc, kb, kd, sf2, ef2, fa, fb, _, _, _, hsa, hsb, rfl, _, hre2, hra, hrb, _⟩, hb⟩
 obtain ⟨evB, evD, rfl, _, _⟩ := zd hre2
 replace hrs := hrs.below hb; replace hre := hre.below hb; replace hrw := hrw.below hb; replace hS := hS.below hb; replace hW := hW.below hb
 replace hB := hB.trans (hb.mono hB.size)
 have hsz2 := zcs hel HES.out hsa hsb
 clear hb hre2
 obtain ⟨tB, htB⟩ : ∃ F, F = w3.heap.size := ⟨_, rfl⟩
 obtain ⟨pB, hpB⟩ : ∃ G, G = tB + 1 := ⟨_, rfl⟩
 obtain ⟨qB, hqB⟩ : ∃ G, G = pB + 1 := ⟨_, rfl⟩
 have hP := (Box.new (w3.alloc (.cells #[.slice ta s2.syms.length tc] 25)) [.string a.name, .slice ka a.kids.length kc] 29).alloc (.cells #[.string b.name, .slice kb b.kids.length kd] 29)
 have hQ := Box.new ((w3.alloc (.cells #[.slice ta s2.syms.length tc] 25)).alloc (.cells #[.string a.name, .slice ka a.kids.length kc] 29)) [.string b.name, .slice kb b.kids.length kd] 29
 simp only [World.size_alloc] at hP hQ
 rw [← htB, ← hpB] at hP
 rw [← htB, ← hpB, ← hqB] at hQ
 have hba : Below w3.heap.size w3 (((w3.alloc (.cells #[.slice ta s2.syms.length tc] 25)).alloc (.cells #[.string a.name, .slice ka a.kids.length kc] 29)).alloc (.cells #[.string b.name, .slice kb b.kids.length kd] 29)) := (((Below.refl _ _).alloc (Nat.le_refl _) _).alloc (by simp) _).alloc (by simp; omega) _
 go_upto_region 5 with fail
 rw [← htB, ← hpB, ← hqB]
 replace hrs := hrs.below hba
 replace hre := hre.below hba
 replace hrw := hrw.below hba
 replace hS := hS.below hba
 replace hW := hW.below hba
 replace hra := hra.below hba
 replace hrb := hrb.below hba
 replace hB := hB.trans (hba.mono hB.size)
 clear hba htB hpB hqB
 generalize ((w3.alloc (.cells #[.slice ta s2.syms.length tc] 25)).alloc (.cells #[.string a.name, .slice ka a.kids.length kc] 29)).alloc (.cells #[.string b.name, .slice kb b.kids.length kd] 29) = w4 at *
 obtain ⟨ok, HI⟩ : ∃ a, Hid (eqsB s es = a) := ⟨_, Lib.hid rfl⟩
 have n1 : (ok != ok) = false := by cases ok <;> rfl
 have n2 : (ok == ok) = true := by cases ok <;> rfl
 have s0 := hS.2.1 0 _ rfl
 go_wp2_with fail
 refine (zaW s es _ _ _ _ _ (by omega) (by omega) (by exact hrs) (by exact hre)).mono ?_
 rintro e w5 ⟨rfl, hb⟩
 rw [HI.out]
 replace hrs := hrs.below hb
 replace hre := hre.below hb
 replace hrw := hrw.below hb
 replace hS := hS.below hb
 replace hW := hW.below hb
 replace hra := hra.below hb
 replace hrb := hrb.below hb
 replace hP := hP.below hb
 replace hQ := hQ.below hb
 replace hB := hB.trans (hb.mono hB.size)
 clear hb s0
 have s0 := hS.2.1 0 _ rfl
 go_wp2_with fail
 refine (zaF s es _ _ _ _ _ (by omega) (by exact hrs) (by exact hre)).mono ?_
 rintro e w6 ⟨rfl, hb⟩
 rw [HI.out]
 replace hrs := hrs.below hb
 replace hre := hre.below hb
 replace hrw := hrw.below hb
 replace hS := hS.below hb
 replace hW := hW.below hb
 replace hra := hra.below hb
 replace hrb := hrb.below hb
 replace hP := hP.below hb
 replace hQ := hQ.below hb
 replace hB := hB.trans (hb.mono hB.size)
 clear hb s0
 have s0 := hS.2.1 0 _ rfl
 cases ok
 rotate_left
 ·go_wp2_with fail
  refine (zaF s es _ _ _ _ _ (by omega) (by exact hrs) (by exact hre)).mono ?_
  rintro e w7 ⟨rfl, hb⟩
  rw [HI.out]
  replace hB := hB.trans (hb.mono hB.size)
  go_wp2_with fail
  go_ret
  exact ⟨rfl, hB⟩
 ·have HT := Lib.hid (whyT_bad (x := .mk r m t ks) HI.out)
  have HN := Lib.hid (zdS (a := a) (b := b) HI.out)
  have HC := Lib.hid (zaY (zcP (ms := []) HI.out))
  have c0 := hW.2.1 0 _ rfl; have c1 := hW.2.1 1 _ rfl; have c2 := hW.2.1 2 _ rfl; have c3' := hW.2.1 3 _ rfl; have c4' := hW.2.1 4 _ rfl
  go_wp2_with fail
  refine (zcO s es (.mk r m t ks) _ _ _ _ _ _ _ (by omega) (by omega) (hfit.thin (by decide)) (by exact hrs) (by exact hre) (by exact hrw)).mono ?_
  rintro e w7 ⟨us, fs, rfl, hru, _, hb⟩
  rw [HT.out] at hru ⊢
  simp only [Option.getD_none, Option.isSome_none] at hru ⊢
  obtain ⟨u1, d1, _, u3, d3, _, rfl, _, _, hk1, _, _⟩ := Eqn.open hru
  replace hrs := hrs.below hb
  replace hre := hre.below hb
  replace hra := hra.below hb
  replace hrb := hrb.below hb
  replace hS := hS.below hb
  replace hP := hP.below hb
  replace hQ := hQ.below hb
  replace hB := hB.trans (hb.mono hB.size)
  clear hb s0 c0 c1 c2 c3' c4' hW hrw hru
  have HTM : Hid (RdVs w7 (Tm.mk ⟨#[]⟩ []).cd [.string ⟨#[]⟩, .slice u1 0 d1] []) := Lib.hid (Tm.close (x := .mk ⟨#[]⟩ []) (f1 := []) (Nat.zero_le _) (by
   simp only [Eqn.zero, Tm.kids, List.map_nil, List.length_nil, Rd] at hk1 ⊢
   obtain ⟨x1, x2, x3, x4, x5, _⟩ := hk1
   exact ⟨x1, x2, x3, x4, x5, .inl (by simp)⟩))
  obtain ⟨eB, heB⟩ : ∃ F, F = w7.heap.size := ⟨_, rfl⟩
  have hE := Box.new w7 [.string Eqn.zero.a.name, .slice u1 Eqn.zero.a.kids.length d1, .string Eqn.zero.b.name, .slice u3 Eqn.zero.b.kids.length d3] 39
  rw [← heB] at hE
  go_upto_region 9 with fail
  try rw [← heB]
  have hba := zb w7 (.cells #[.string Eqn.zero.a.name, .slice u1 Eqn.zero.a.kids.length d1, .string Eqn.zero.b.name, .slice u3 Eqn.zero.b.kids.length d3] 39)
  replace HTM := Lib.hid (HTM.out.below hba)
  replace hrs := hrs.below hba
  replace hre := hre.below hba
  replace hra := hra.below hba
  replace hrb := hrb.below hba
  replace hS := hS.below hba
  replace hP := hP.below hba
  replace hQ := hQ.below hba
  replace hB := hB.trans (hba.mono hB.size)
  clear hba heB hk1
  generalize w7.alloc (.cells #[.string Eqn.zero.a.name, .slice u1 Eqn.zero.a.kids.length d1, .string Eqn.zero.b.name, .slice u3 Eqn.zero.b.kids.length d3] 39) = w8 at *
  have s0 := hS.2.1 0 _ rfl; have x0 := hP.2.1 0 _ rfl; have x1 := hP.2.1 1 _ rfl; have y0 := hQ.2.1 0 _ rfl; have y1 := hQ.2.1 1 _ rfl
  go_wp2_with fail
  refine (zdc s es a b HN.out _ _ _ _ _ _ _ _ _ (by omega) (by omega) (by exact hrs) (by exact hre) (by exact hra) (by exact hrb)).mono ?_
  rintro e w9 ⟨rfl, hb⟩
  replace HTM := Lib.hid (HTM.out.below hb)
  replace hE := hE.below hb
  replace hrs := hrs.below hb
  replace hre := hre.below hb
  replace hra := hra.below hb
  replace hrb := hrb.below hb
  replace hS := hS.below hb
  replace hP := hP.below hb
  replace hQ := hQ.below hb
  replace hB := hB.trans (hb.mono hB.size)
  clear hb s0 x0 x1 y0 y1
  have hba := zb w9 (.cells #[.int .i64 0, .int .i64 0, .string ⟨#[]⟩, .slice none 0 0, .slice none 0 0] 32)
  have hEl := hE.1; have hSl := hS.1; have hPl := hP.1; have hQl := hQ.1
  have e0 := hE.2.1 0 _ rfl; have e1 := hE.2.1 1 _ rfl
  go_upto_region 10 with fail
  replace HTM := Lib.hid (HTM.out.below hba)
  replace hE := hE.below hba
  replace hrs := hrs.below hba
  replace hre := hre.below hba
  replace hra := hra.below hba
  replace hrb := hrb.below hba
  replace hS := hS.below hba
  replace hP := hP.below hba
  replace hQ := hQ.below hba
  replace hB := hB.trans (hba.mono hB.size)
  clear hba e0 e1 hEl hSl hPl hQl
  generalize w9.alloc (.cells #[.int .i64 0, .int .i64 0, .string ⟨#[]⟩, .slice none 0 0, .slice none 0 0] 32) = w10 at *
  have e0 := hE.2.1 0 _ rfl; have e1 := hE.2.1 1 _ rfl
  have HEQ : Hid (eqV (Tm.mk ⟨#[]⟩ []).cd (Tm.mk ⟨#[]⟩ []).cd = true) := Lib.hid (by rw [zcf])
  go_wp2_with fail
  refine (sameTm_x (.mk ⟨#[]⟩ []) (.mk ⟨#[]⟩ []) _ _ [] [] _ (by exact HTM.out) (by exact Tm.close (x := .mk ⟨#[]⟩ []) (f1 := []) (Nat.zero_le _) (zaj _))).mono ?_
  rintro e w11 ⟨rfl, hb⟩
  rw [HEQ.out]
  replace hrs := hrs.below hb
  replace hre := hre.below hb
  replace hra := hra.below hb
  replace hrb := hrb.below hb
  replace hS := hS.below hb
  replace hP := hP.below hb
  replace hQ := hQ.below hb
  replace hB := hB.trans (hb.mono hB.size)
  clear hb e0 e1 HTM hE
  have s0 := hS.2.1 0 _ rfl; have x0 := hP.2.1 0 _ rfl; have x1 := hP.2.1 1 _ rfl; have y0 := hQ.2.1 0 _ rfl; have y1 := hQ.2.1 1 _ rfl
  go_wp2_with fail
  refine (zdR s es a b _ _ _ _ _ _ _ _ _ (by omega) (by omega) (by exact hrs) (by exact hre) (by exact hra) (by exact hrb)).mono ?_
  rintro e w12 ⟨rfl, hb⟩
  rw [HN.out]
  replace hrs := hrs.below hb
  replace hre := hre.below hb
  replace hra := hra.below hb
  replace hrb := hrb.below hb
  replace hS := hS.below hb
  replace hP := hP.below hb
  replace hQ := hQ.below hb
  replace hB := hB.trans (hb.mono hB.size)
  clear hb s0 x0 x1 y0 y1
  have s0 := hS.2.1 0 _ rfl
  go_wp2_with fail
  refine (zct s es [] _ _ _ _ _ [] _ (by simp only [List.append_nil]; omega) (by omega) (by exact hrs) (by exact hre) (by exact zaj _)).mono ?_
  rintro e w13 ⟨rv, rf, rfl, hrv, _, hb⟩
  rw [HC.out] at hrv
  obtain ⟨ra, rc, rfl, _, _⟩ := zd hrv
  replace hB := hB.trans (hb.mono hB.size)
  go_wp2_with fail
  go_ret
  exact ⟨rfl, hB⟩
end Go.Proofs.Ytlefdhhnlbpbkaa
end
