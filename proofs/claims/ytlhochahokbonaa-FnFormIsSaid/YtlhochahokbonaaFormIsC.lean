/- For all bytes that come in, the law FnFormIs returns true and leaves its arguments as they were; there is no condition. -/
import Derived.Test.YtlhochahokbonaaPa46
import Derived.Test.YtlhochahokbonaaPa48
import Derived.Test.YtlhochahokbonaaPa47
import Derived.Test.YtlhochahokbonaaRows
import Derived.WalkKit
import Derived.ProofKit
import Derived.OpenShut
import Derived.ShutString
import Derived.ChangeOld
import Derived.Below
import Derived.Test.YtlhochahokbonaaPa4
namespace Go.Proofs.Ytlhochahokbonaa
open Go Go.RowKit
set_option linter.unusedVariables false
set_option linter.unusedSimpArgs false
set_option maxRecDepth 100000 in
set_option maxHeartbeats 8000000 in
theorem formIsL_walk (v : Value) (w : World) (hv : Byts w v) :
    Calls Try.prog 4 #[v] w fun e w' => e = .returned (.bool true) ∧ Below w.heap.size w w' := by
  have hv0 := hv
  obtain ⟨a, n, cap, rfl, hn1, hn2, _⟩ := hv
  by_cases hlen : n ≤ 1048576
  rotate_left
  · have hlb : decide ((1048576 : Int) < (n : Int)) = true := by simp; omega
    go_enter Try.func4, Try.ntmps4
    go_wp2_with fail
    go_ret
    exact ⟨rfl, Below.refl _ _⟩
  have hlb : decide ((1048576 : Int) < (n : Int)) = false := by simp; omega
  go_enter Try.func4, Try.ntmps4
  go_wp2_with fail
  refine (drawFormIs_any _ _ hv0).mono ?_
  rintro e w1 ⟨⟨f, bs, b3, d3, b5, d5, b6, d6, b7, d7, b11, d11, bv, ff, g, hwf, rfl, hrf, hbv⟩, hB⟩
  obtain ⟨va, vc, rfl, _, _⟩ := rd_sl_inv hbv
  go_upto_region 4 with fail
  have hX := Box.new w1 [.int .i64 f.kind, .int .i64 f.lit.atom.kind, .string f.lit.atom.a.name, .slice b3 f.lit.atom.a.kids.length d3, .string f.lit.atom.b.name, .slice b5 f.lit.atom.b.kids.length d5, .slice b6 f.lit.atom.nums.length d6, .slice b7 f.lit.atom.times.length d7, .int .i64 f.lit.atom.bound, .bool f.lit.atom.strict, .bool f.lit.no, .slice b11 f.kids.length d11] 43
  obtain ⟨F, hF⟩ : ∃ F, F = w1.heap.size := ⟨_, rfl⟩
  rw [← hF] at hX ⊢
  clear hF
  have hba := below_alloc w1 (.cells #[.int .i64 f.kind, .int .i64 f.lit.atom.kind, .string f.lit.atom.a.name, .slice b3 f.lit.atom.a.kids.length d3, .string f.lit.atom.b.name, .slice b5 f.lit.atom.b.kids.length d5, .slice b6 f.lit.atom.nums.length d6, .slice b7 f.lit.atom.times.length d7, .int .i64 f.lit.atom.bound, .bool f.lit.atom.strict, .bool f.lit.no, .slice b11 f.kids.length d11] 43)
  replace hrf := hrf.below hba
  replace hbv := hbv.below hba
  replace hB := hB.trans (hba.mono hB.size)
  clear hba
  generalize w1.alloc (.cells #[.int .i64 f.kind, .int .i64 f.lit.atom.kind, .string f.lit.atom.a.name, .slice b3 f.lit.atom.a.kids.length d3, .string f.lit.atom.b.name, .slice b5 f.lit.atom.b.kids.length d5, .slice b6 f.lit.atom.nums.length d6, .slice b7 f.lit.atom.times.length d7, .int .i64 f.lit.atom.bound, .bool f.lit.atom.strict, .bool f.lit.no, .slice b11 f.kids.length d11] 43) = W at *
  obtain ⟨so, ok, HI⟩ : ∃ a b, Hid (isF f bs = (a, b)) := ⟨_, _, Lib.hid rfl⟩
  have q0 := hX.2.1 0 _ rfl
  have q1 := hX.2.1 1 _ rfl
  have q2 := hX.2.1 2 _ rfl
  have q3 := hX.2.1 3 _ rfl
  have q4 := hX.2.1 4 _ rfl
  have q5 := hX.2.1 5 _ rfl
  have q6 := hX.2.1 6 _ rfl
  have q7 := hX.2.1 7 _ rfl
  have q8 := hX.2.1 8 _ rfl
  have q9 := hX.2.1 9 _ rfl
  have q10 := hX.2.1 10 _ rfl
  have q11 := hX.2.1 11 _ rfl
  go_wp2_with fail
  refine (formIs_any f bs _ _ _ _ _ (by omega) (by exact hrf) (by exact hbv) so ok HI.out).mono ?_
  rintro e w2 ⟨rfl, hb2⟩
  replace hX := hX.below hb2
  replace hrf := hrf.below hb2
  replace hbv := hbv.below hb2
  replace hB := hB.trans (hb2.mono hB.size)
  clear hb2 q0 q1 q2 q3 q4 q5 q6 q7 q8 q9 q10 q11
  have q0 := hX.2.1 0 _ rfl
  have q1 := hX.2.1 1 _ rfl
  have q2 := hX.2.1 2 _ rfl
  have q3 := hX.2.1 3 _ rfl
  have q4 := hX.2.1 4 _ rfl
  have q5 := hX.2.1 5 _ rfl
  have q6 := hX.2.1 6 _ rfl
  have q7 := hX.2.1 7 _ rfl
  have q8 := hX.2.1 8 _ rfl
  have q9 := hX.2.1 9 _ rfl
  have q10 := hX.2.1 10 _ rfl
  have q11 := hX.2.1 11 _ rfl
  go_wp2_with fail
  refine (formIsS_any f bs _ _ _ _ _ (by omega) (by exact hrf) (by exact hbv) so ok HI.out).mono ?_
  rintro e w3 ⟨rfl, hb3⟩
  replace hX := hX.below hb3
  replace hrf := hrf.below hb3
  replace hbv := hbv.below hb3
  replace hB := hB.trans (hb3.mono hB.size)
  clear hb3 q0 q1 q2 q3 q4 q5 q6 q7 q8 q9 q10 q11
  have hs1 : (so != so) = false := by cases so <;> rfl
  have hs2 : (so == so) = true := by cases so <;> rfl
  have ho1 : (ok != ok) = false := by cases ok <;> rfl
  have ho2 : (ok == ok) = true := by cases ok <;> rfl
  cases ok
  · go_wp2_with fail
    go_ret
    exact ⟨rfl, hB⟩
  · have q0 := hX.2.1 0 _ rfl
    have q1 := hX.2.1 1 _ rfl
    have q2 := hX.2.1 2 _ rfl
    have q3 := hX.2.1 3 _ rfl
    have q4 := hX.2.1 4 _ rfl
    have q5 := hX.2.1 5 _ rfl
    have q6 := hX.2.1 6 _ rfl
    have q7 := hX.2.1 7 _ rfl
    have q8 := hX.2.1 8 _ rfl
    have q9 := hX.2.1 9 _ rfl
    have q10 := hX.2.1 10 _ rfl
    have q11 := hX.2.1 11 _ rfl
    go_upto_region 9 with fail
    obtain ⟨ka, hka⟩ : ∃ q, q = w3.heap.size := ⟨_, rfl⟩
    obtain ⟨xa, hxa⟩ : ∃ q, q = ka + 1 := ⟨_, rfl⟩
    have hra := kids1 hrf 43
    have hXa := Box.new (w3.alloc (.cells #[.int .i64 f.kind, .int .i64 f.lit.atom.kind, .string f.lit.atom.a.name, .slice b3 f.lit.atom.a.kids.length d3, .string f.lit.atom.b.name, .slice b5 f.lit.atom.b.kids.length d5, .slice b6 f.lit.atom.nums.length d6, .slice b7 f.lit.atom.times.length d7, .int .i64 f.lit.atom.bound, .bool f.lit.atom.strict, .bool f.lit.no, .slice b11 f.kids.length d11] 43)) [.int .i64 2, .int .i64 0, .string ⟨#[]⟩, .slice none 0 0, .string ⟨#[]⟩, .slice none 0 0, .slice none 0 0, .slice none 0 0, .int .i64 0, .bool false, .bool false, .slice (some ⟨w3.heap.size, 0, none⟩) 1 1] 43
    rw [World.size_alloc] at hXa
    rw [← hka, ← hxa] at hXa
    rw [← hka] at hra
    rw [← hka]
    try rw [← hxa]
    have hba : Below w3.heap.size w3 ((w3.alloc (.cells #[.int .i64 f.kind, .int .i64 f.lit.atom.kind, .string f.lit.atom.a.name, .slice b3 f.lit.atom.a.kids.length d3, .string f.lit.atom.b.name, .slice b5 f.lit.atom.b.kids.length d5, .slice b6 f.lit.atom.nums.length d6, .slice b7 f.lit.atom.times.length d7, .int .i64 f.lit.atom.bound, .bool f.lit.atom.strict, .bool f.lit.no, .slice b11 f.kids.length d11] 43)).alloc (.cells #[.int .i64 2, .int .i64 0, .string ⟨#[]⟩, .slice none 0 0, .string ⟨#[]⟩, .slice none 0 0, .slice none 0 0, .slice none 0 0, .int .i64 0, .bool false, .bool false, .slice (some ⟨ka, 0, none⟩) 1 1] 43)) := ((Below.refl _ _).alloc (Nat.le_refl _) _).alloc (by simp) _
    have hfa := (fm_mk (k := 2) (by unfold I64; simp) hra).below (below_alloc _ (.cells #[.int .i64 2, .int .i64 0, .string ⟨#[]⟩, .slice none 0 0, .string ⟨#[]⟩, .slice none 0 0, .slice none 0 0, .slice none 0 0, .int .i64 0, .bool false, .bool false, .slice (some ⟨ka, 0, none⟩) 1 1] 43))
    replace hX := hX.below hba
    replace hrf := hrf.below hba
    replace hbv := hbv.below hba
    replace hB := hB.trans (hba.mono hB.size)
    clear hba hka hxa hra q0 q1 q2 q3 q4 q5 q6 q7 q8 q9 q10 q11
    generalize (w3.alloc (.cells #[.int .i64 f.kind, .int .i64 f.lit.atom.kind, .string f.lit.atom.a.name, .slice b3 f.lit.atom.a.kids.length d3, .string f.lit.atom.b.name, .slice b5 f.lit.atom.b.kids.length d5, .slice b6 f.lit.atom.nums.length d6, .slice b7 f.lit.atom.times.length d7, .int .i64 f.lit.atom.bound, .bool f.lit.atom.strict, .bool f.lit.no, .slice b11 f.kids.length d11] 43)).alloc (.cells #[.int .i64 2, .int .i64 0, .string ⟨#[]⟩, .slice none 0 0, .string ⟨#[]⟩, .slice none 0 0, .slice none 0 0, .slice none 0 0, .int .i64 0, .bool false, .bool false, .slice (some ⟨ka, 0, none⟩) 1 1] 43) = w4 at *
    have q0 := hXa.2.1 0 _ rfl
    have q1 := hXa.2.1 1 _ rfl
    have q2 := hXa.2.1 2 _ rfl
    have q3 := hXa.2.1 3 _ rfl
    have q4 := hXa.2.1 4 _ rfl
    have q5 := hXa.2.1 5 _ rfl
    have q6 := hXa.2.1 6 _ rfl
    have q7 := hXa.2.1 7 _ rfl
    have q8 := hXa.2.1 8 _ rfl
    have q9 := hXa.2.1 9 _ rfl
    have q10 := hXa.2.1 10 _ rfl
    have q11 := hXa.2.1 11 _ rfl
    obtain ⟨t, p, HT⟩ : ∃ a b, Hid (isF (notF f) bs = (a, b)) := ⟨_, _, Lib.hid rfl⟩
    have hw1 := not_wt f
    go_wp2_with fail
    refine (formIs_any (notF f) bs _ _ _ _ _ (by omega) (by exact hfa) (by exact hbv) t p HT.out).mono ?_
    rintro e w6 ⟨rfl, hb6⟩
    replace hX := hX.below hb6
    replace hrf := hrf.below hb6
    replace hbv := hbv.below hb6
    replace hB := hB.trans (hb6.mono hB.size)
    clear hb6 hw1 hXa hfa q0 q1 q2 q3 q4 q5 q6 q7 q8 q9 q10 q11
    have hpt : p = true → t = !so := fun h => not_law HI.out (h ▸ HT.out)
    have htf : ∀ x : Bool, ((!x) == x) = false := fun x => by cases x <;> rfl
    have htso := htf so
    clear htf
    cases p
    · clear hpt
      have q0 := hX.2.1 0 _ rfl
      have q1 := hX.2.1 1 _ rfl
      have q2 := hX.2.1 2 _ rfl
      have q3 := hX.2.1 3 _ rfl
      have q4 := hX.2.1 4 _ rfl
      have q5 := hX.2.1 5 _ rfl
      have q6 := hX.2.1 6 _ rfl
      have q7 := hX.2.1 7 _ rfl
      have q8 := hX.2.1 8 _ rfl
      have q9 := hX.2.1 9 _ rfl
      have q10 := hX.2.1 10 _ rfl
      have q11 := hX.2.1 11 _ rfl
      go_upto_region 13 with fail
      obtain ⟨kp3, hkp3⟩ : ∃ q, q = w6.heap.size := ⟨_, rfl⟩
      obtain ⟨xp3, hxp3⟩ : ∃ q, q = kp3 + 1 := ⟨_, rfl⟩
      have hrp3 : Rd (w6.alloc (.cells #[.int .i64 f.kind, .int .i64 f.lit.atom.kind, .string f.lit.atom.a.name, .slice b3 f.lit.atom.a.kids.length d3, .string f.lit.atom.b.name, .slice b5 f.lit.atom.b.kids.length d5, .slice b6 f.lit.atom.nums.length d6, .slice b7 f.lit.atom.times.length d7, .int .i64 f.lit.atom.bound, .bool f.lit.atom.strict, .bool f.lit.no, .slice b11 f.kids.length d11, .int .i64 f.kind, .int .i64 f.lit.atom.kind, .string f.lit.atom.a.name, .slice b3 f.lit.atom.a.kids.length d3, .string f.lit.atom.b.name, .slice b5 f.lit.atom.b.kids.length d5, .slice b6 f.lit.atom.nums.length d6, .slice b7 f.lit.atom.times.length d7, .int .i64 f.lit.atom.bound, .bool f.lit.atom.strict, .bool f.lit.no, .slice b11 f.kids.length d11] 43)) (.sl ([f, f].map Fm.cd)) (.slice (some ⟨w6.heap.size, 0, none⟩) 2 2) _ := kids2 hrf hrf 43
      have hXp3 := Box.new (w6.alloc (.cells #[.int .i64 f.kind, .int .i64 f.lit.atom.kind, .string f.lit.atom.a.name, .slice b3 f.lit.atom.a.kids.length d3, .string f.lit.atom.b.name, .slice b5 f.lit.atom.b.kids.length d5, .slice b6 f.lit.atom.nums.length d6, .slice b7 f.lit.atom.times.length d7, .int .i64 f.lit.atom.bound, .bool f.lit.atom.strict, .bool f.lit.no, .slice b11 f.kids.length d11, .int .i64 f.kind, .int .i64 f.lit.atom.kind, .string f.lit.atom.a.name, .slice b3 f.lit.atom.a.kids.length d3, .string f.lit.atom.b.name, .slice b5 f.lit.atom.b.kids.length d5, .slice b6 f.lit.atom.nums.length d6, .slice b7 f.lit.atom.times.length d7, .int .i64 f.lit.atom.bound, .bool f.lit.atom.strict, .bool f.lit.no, .slice b11 f.kids.length d11] 43)) [.int .i64 3, .int .i64 0, .string ⟨#[]⟩, .slice none 0 0, .string ⟨#[]⟩, .slice none 0 0, .slice none 0 0, .slice none 0 0, .int .i64 0, .bool false, .bool false, .slice (some ⟨w6.heap.size, 0, none⟩) 2 2] 43
      rw [World.size_alloc] at hXp3
      rw [← hkp3, ← hxp3] at hXp3
      rw [← hkp3] at hrp3
      rw [← hkp3]
      try rw [← hxp3]
      have hba : Below w6.heap.size w6 ((w6.alloc (.cells #[.int .i64 f.kind, .int .i64 f.lit.atom.kind, .string f.lit.atom.a.name, .slice b3 f.lit.atom.a.kids.length d3, .string f.lit.atom.b.name, .slice b5 f.lit.atom.b.kids.length d5, .slice b6 f.lit.atom.nums.length d6, .slice b7 f.lit.atom.times.length d7, .int .i64 f.lit.atom.bound, .bool f.lit.atom.strict, .bool f.lit.no, .slice b11 f.kids.length d11, .int .i64 f.kind, .int .i64 f.lit.atom.kind, .string f.lit.atom.a.name, .slice b3 f.lit.atom.a.kids.length d3, .string f.lit.atom.b.name, .slice b5 f.lit.atom.b.kids.length d5, .slice b6 f.lit.atom.nums.length d6, .slice b7 f.lit.atom.times.length d7, .int .i64 f.lit.atom.bound, .bool f.lit.atom.strict, .bool f.lit.no, .slice b11 f.kids.length d11] 43)).alloc (.cells #[.int .i64 3, .int .i64 0, .string ⟨#[]⟩, .slice none 0 0, .string ⟨#[]⟩, .slice none 0 0, .slice none 0 0, .slice none 0 0, .int .i64 0, .bool false, .bool false, .slice (some ⟨kp3, 0, none⟩) 2 2] 43)) := ((Below.refl _ _).alloc (Nat.le_refl _) _).alloc (by simp) _
      have hfp3 := (fm_mk (k := 3) (by unfold I64; simp) hrp3).below (below_alloc _ (.cells #[.int .i64 3, .int .i64 0, .string ⟨#[]⟩, .slice none 0 0, .string ⟨#[]⟩, .slice none 0 0, .slice none 0 0, .slice none 0 0, .int .i64 0, .bool false, .bool false, .slice (some ⟨kp3, 0, none⟩) 2 2] 43))
      replace hX := hX.below hba
      replace hrf := hrf.below hba
      replace hbv := hbv.below hba
      replace hB := hB.trans (hba.mono hB.size)
      clear hba hkp3 hxp3 hrp3
      generalize (w6.alloc (.cells #[.int .i64 f.kind, .int .i64 f.lit.atom.kind, .string f.lit.atom.a.name, .slice b3 f.lit.atom.a.kids.length d3, .string f.lit.atom.b.name, .slice b5 f.lit.atom.b.kids.length d5, .slice b6 f.lit.atom.nums.length d6, .slice b7 f.lit.atom.times.length d7, .int .i64 f.lit.atom.bound, .bool f.lit.atom.strict, .bool f.lit.no, .slice b11 f.kids.length d11, .int .i64 f.kind, .int .i64 f.lit.atom.kind, .string f.lit.atom.a.name, .slice b3 f.lit.atom.a.kids.length d3, .string f.lit.atom.b.name, .slice b5 f.lit.atom.b.kids.length d5, .slice b6 f.lit.atom.nums.length d6, .slice b7 f.lit.atom.times.length d7, .int .i64 f.lit.atom.bound, .bool f.lit.atom.strict, .bool f.lit.no, .slice b11 f.kids.length d11] 43)).alloc (.cells #[.int .i64 3, .int .i64 0, .string ⟨#[]⟩, .slice none 0 0, .string ⟨#[]⟩, .slice none 0 0, .slice none 0 0, .slice none 0 0, .int .i64 0, .bool false, .bool false, .slice (some ⟨kp3, 0, none⟩) 2 2] 43) = u3 at *
      clear q0 q1 q2 q3 q4 q5 q6 q7 q8 q9 q10 q11
      have q0 := hX.2.1 0 _ rfl
      have q1 := hX.2.1 1 _ rfl
      have q2 := hX.2.1 2 _ rfl
      have q3 := hX.2.1 3 _ rfl
      have q4 := hX.2.1 4 _ rfl
      have q5 := hX.2.1 5 _ rfl
      have q6 := hX.2.1 6 _ rfl
      have q7 := hX.2.1 7 _ rfl
      have q8 := hX.2.1 8 _ rfl
      have q9 := hX.2.1 9 _ rfl
      have q10 := hX.2.1 10 _ rfl
      have q11 := hX.2.1 11 _ rfl
      go_upto_region 14 with fail
      obtain ⟨kp4, hkp4⟩ : ∃ q, q = u3.heap.size := ⟨_, rfl⟩
      obtain ⟨xp4, hxp4⟩ : ∃ q, q = kp4 + 1 := ⟨_, rfl⟩
      have hrp4 : Rd (u3.alloc (.cells #[.int .i64 f.kind, .int .i64 f.lit.atom.kind, .string f.lit.atom.a.name, .slice b3 f.lit.atom.a.kids.length d3, .string f.lit.atom.b.name, .slice b5 f.lit.atom.b.kids.length d5, .slice b6 f.lit.atom.nums.length d6, .slice b7 f.lit.atom.times.length d7, .int .i64 f.lit.atom.bound, .bool f.lit.atom.strict, .bool f.lit.no, .slice b11 f.kids.length d11, .int .i64 f.kind, .int .i64 f.lit.atom.kind, .string f.lit.atom.a.name, .slice b3 f.lit.atom.a.kids.length d3, .string f.lit.atom.b.name, .slice b5 f.lit.atom.b.kids.length d5, .slice b6 f.lit.atom.nums.length d6, .slice b7 f.lit.atom.times.length d7, .int .i64 f.lit.atom.bound, .bool f.lit.atom.strict, .bool f.lit.no, .slice b11 f.kids.length d11] 43)) (.sl ([f, f].map Fm.cd)) (.slice (some ⟨u3.heap.size, 0, none⟩) 2 2) _ := kids2 hrf hrf 43
      have hXp4 := Box.new (u3.alloc (.cells #[.int .i64 f.kind, .int .i64 f.lit.atom.kind, .string f.lit.atom.a.name, .slice b3 f.lit.atom.a.kids.length d3, .string f.lit.atom.b.name, .slice b5 f.lit.atom.b.kids.length d5, .slice b6 f.lit.atom.nums.length d6, .slice b7 f.lit.atom.times.length d7, .int .i64 f.lit.atom.bound, .bool f.lit.atom.strict, .bool f.lit.no, .slice b11 f.kids.length d11, .int .i64 f.kind, .int .i64 f.lit.atom.kind, .string f.lit.atom.a.name, .slice b3 f.lit.atom.a.kids.length d3, .string f.lit.atom.b.name, .slice b5 f.lit.atom.b.kids.length d5, .slice b6 f.lit.atom.nums.length d6, .slice b7 f.lit.atom.times.length d7, .int .i64 f.lit.atom.bound, .bool f.lit.atom.strict, .bool f.lit.no, .slice b11 f.kids.length d11] 43)) [.int .i64 4, .int .i64 0, .string ⟨#[]⟩, .slice none 0 0, .string ⟨#[]⟩, .slice none 0 0, .slice none 0 0, .slice none 0 0, .int .i64 0, .bool false, .bool false, .slice (some ⟨u3.heap.size, 0, none⟩) 2 2] 43
      rw [World.size_alloc] at hXp4
      rw [← hkp4, ← hxp4] at hXp4
      rw [← hkp4] at hrp4
      rw [← hkp4]
      try rw [← hxp4]
      have hba : Below u3.heap.size u3 ((u3.alloc (.cells #[.int .i64 f.kind, .int .i64 f.lit.atom.kind, .string f.lit.atom.a.name, .slice b3 f.lit.atom.a.kids.length d3, .string f.lit.atom.b.name, .slice b5 f.lit.atom.b.kids.length d5, .slice b6 f.lit.atom.nums.length d6, .slice b7 f.lit.atom.times.length d7, .int .i64 f.lit.atom.bound, .bool f.lit.atom.strict, .bool f.lit.no, .slice b11 f.kids.length d11, .int .i64 f.kind, .int .i64 f.lit.atom.kind, .string f.lit.atom.a.name, .slice b3 f.lit.atom.a.kids.length d3, .string f.lit.atom.b.name, .slice b5 f.lit.atom.b.kids.length d5, .slice b6 f.lit.atom.nums.length d6, .slice b7 f.lit.atom.times.length d7, .int .i64 f.lit.atom.bound, .bool f.lit.atom.strict, .bool f.lit.no, .slice b11 f.kids.length d11] 43)).alloc (.cells #[.int .i64 4, .int .i64 0, .string ⟨#[]⟩, .slice none 0 0, .string ⟨#[]⟩, .slice none 0 0, .slice none 0 0, .slice none 0 0, .int .i64 0, .bool false, .bool false, .slice (some ⟨kp4, 0, none⟩) 2 2] 43)) := ((Below.refl _ _).alloc (Nat.le_refl _) _).alloc (by simp) _
      have hfp4 := (fm_mk (k := 4) (by unfold I64; simp) hrp4).below (below_alloc _ (.cells #[.int .i64 4, .int .i64 0, .string ⟨#[]⟩, .slice none 0 0, .string ⟨#[]⟩, .slice none 0 0, .slice none 0 0, .slice none 0 0, .int .i64 0, .bool false, .bool false, .slice (some ⟨kp4, 0, none⟩) 2 2] 43))
      replace hX := hX.below hba
      replace hrf := hrf.below hba
      replace hbv := hbv.below hba
      replace hXp3 := hXp3.below hba
      replace hfp3 := hfp3.below hba
      replace hB := hB.trans (hba.mono hB.size)
      clear hba hkp4 hxp4 hrp4
      generalize (u3.alloc (.cells #[.int .i64 f.kind, .int .i64 f.lit.atom.kind, .string f.lit.atom.a.name, .slice b3 f.lit.atom.a.kids.length d3, .string f.lit.atom.b.name, .slice b5 f.lit.atom.b.kids.length d5, .slice b6 f.lit.atom.nums.length d6, .slice b7 f.lit.atom.times.length d7, .int .i64 f.lit.atom.bound, .bool f.lit.atom.strict, .bool f.lit.no, .slice b11 f.kids.length d11, .int .i64 f.kind, .int .i64 f.lit.atom.kind, .string f.lit.atom.a.name, .slice b3 f.lit.atom.a.kids.length d3, .string f.lit.atom.b.name, .slice b5 f.lit.atom.b.kids.length d5, .slice b6 f.lit.atom.nums.length d6, .slice b7 f.lit.atom.times.length d7, .int .i64 f.lit.atom.bound, .bool f.lit.atom.strict, .bool f.lit.no, .slice b11 f.kids.length d11] 43)).alloc (.cells #[.int .i64 4, .int .i64 0, .string ⟨#[]⟩, .slice none 0 0, .string ⟨#[]⟩, .slice none 0 0, .slice none 0 0, .slice none 0 0, .int .i64 0, .bool false, .bool false, .slice (some ⟨kp4, 0, none⟩) 2 2] 43) = u4 at *
      clear q0 q1 q2 q3 q4 q5 q6 q7 q8 q9 q10 q11
      have q0 := hX.2.1 0 _ rfl
      have q1 := hX.2.1 1 _ rfl
      have q2 := hX.2.1 2 _ rfl
      have q3 := hX.2.1 3 _ rfl
      have q4 := hX.2.1 4 _ rfl
      have q5 := hX.2.1 5 _ rfl
      have q6 := hX.2.1 6 _ rfl
      have q7 := hX.2.1 7 _ rfl
      have q8 := hX.2.1 8 _ rfl
      have q9 := hX.2.1 9 _ rfl
      have q10 := hX.2.1 10 _ rfl
      have q11 := hX.2.1 11 _ rfl
      go_upto_region 15 with fail
      obtain ⟨kp5, hkp5⟩ : ∃ q, q = u4.heap.size := ⟨_, rfl⟩
      obtain ⟨xp5, hxp5⟩ : ∃ q, q = kp5 + 1 := ⟨_, rfl⟩
      have hrp5 : Rd (u4.alloc (.cells #[.int .i64 f.kind, .int .i64 f.lit.atom.kind, .string f.lit.atom.a.name, .slice b3 f.lit.atom.a.kids.length d3, .string f.lit.atom.b.name, .slice b5 f.lit.atom.b.kids.length d5, .slice b6 f.lit.atom.nums.length d6, .slice b7 f.lit.atom.times.length d7, .int .i64 f.lit.atom.bound, .bool f.lit.atom.strict, .bool f.lit.no, .slice b11 f.kids.length d11, .int .i64 f.kind, .int .i64 f.lit.atom.kind, .string f.lit.atom.a.name, .slice b3 f.lit.atom.a.kids.length d3, .string f.lit.atom.b.name, .slice b5 f.lit.atom.b.kids.length d5, .slice b6 f.lit.atom.nums.length d6, .slice b7 f.lit.atom.times.length d7, .int .i64 f.lit.atom.bound, .bool f.lit.atom.strict, .bool f.lit.no, .slice b11 f.kids.length d11] 43)) (.sl ([f, f].map Fm.cd)) (.slice (some ⟨u4.heap.size, 0, none⟩) 2 2) _ := kids2 hrf hrf 43
      have hXp5 := Box.new (u4.alloc (.cells #[.int .i64 f.kind, .int .i64 f.lit.atom.kind, .string f.lit.atom.a.name, .slice b3 f.lit.atom.a.kids.length d3, .string f.lit.atom.b.name, .slice b5 f.lit.atom.b.kids.length d5, .slice b6 f.lit.atom.nums.length d6, .slice b7 f.lit.atom.times.length d7, .int .i64 f.lit.atom.bound, .bool f.lit.atom.strict, .bool f.lit.no, .slice b11 f.kids.length d11, .int .i64 f.kind, .int .i64 f.lit.atom.kind, .string f.lit.atom.a.name, .slice b3 f.lit.atom.a.kids.length d3, .string f.lit.atom.b.name, .slice b5 f.lit.atom.b.kids.length d5, .slice b6 f.lit.atom.nums.length d6, .slice b7 f.lit.atom.times.length d7, .int .i64 f.lit.atom.bound, .bool f.lit.atom.strict, .bool f.lit.no, .slice b11 f.kids.length d11] 43)) [.int .i64 5, .int .i64 0, .string ⟨#[]⟩, .slice none 0 0, .string ⟨#[]⟩, .slice none 0 0, .slice none 0 0, .slice none 0 0, .int .i64 0, .bool false, .bool false, .slice (some ⟨u4.heap.size, 0, none⟩) 2 2] 43
      rw [World.size_alloc] at hXp5
      rw [← hkp5, ← hxp5] at hXp5
      rw [← hkp5] at hrp5
      rw [← hkp5]
      try rw [← hxp5]
      have hba : Below u4.heap.size u4 ((u4.alloc (.cells #[.int .i64 f.kind, .int .i64 f.lit.atom.kind, .string f.lit.atom.a.name, .slice b3 f.lit.atom.a.kids.length d3, .string f.lit.atom.b.name, .slice b5 f.lit.atom.b.kids.length d5, .slice b6 f.lit.atom.nums.length d6, .slice b7 f.lit.atom.times.length d7, .int .i64 f.lit.atom.bound, .bool f.lit.atom.strict, .bool f.lit.no, .slice b11 f.kids.length d11, .int .i64 f.kind, .int .i64 f.lit.atom.kind, .string f.lit.atom.a.name, .slice b3 f.lit.atom.a.kids.length d3, .string f.lit.atom.b.name, .slice b5 f.lit.atom.b.kids.length d5, .slice b6 f.lit.atom.nums.length d6, .slice b7 f.lit.atom.times.length d7, .int .i64 f.lit.atom.bound, .bool f.lit.atom.strict, .bool f.lit.no, .slice b11 f.kids.length d11] 43)).alloc (.cells #[.int .i64 5, .int .i64 0, .string ⟨#[]⟩, .slice none 0 0, .string ⟨#[]⟩, .slice none 0 0, .slice none 0 0, .slice none 0 0, .int .i64 0, .bool false, .bool false, .slice (some ⟨kp5, 0, none⟩) 2 2] 43)) := ((Below.refl _ _).alloc (Nat.le_refl _) _).alloc (by simp) _
      have hfp5 := (fm_mk (k := 5) (by unfold I64; simp) hrp5).below (below_alloc _ (.cells #[.int .i64 5, .int .i64 0, .string ⟨#[]⟩, .slice none 0 0, .string ⟨#[]⟩, .slice none 0 0, .slice none 0 0, .slice none 0 0, .int .i64 0, .bool false, .bool false, .slice (some ⟨kp5, 0, none⟩) 2 2] 43))
      replace hX := hX.below hba
      replace hrf := hrf.below hba
      replace hbv := hbv.below hba
      replace hXp3 := hXp3.below hba
      replace hfp3 := hfp3.below hba
      replace hXp4 := hXp4.below hba
      replace hfp4 := hfp4.below hba
      replace hB := hB.trans (hba.mono hB.size)
      clear hba hkp5 hxp5 hrp5
      generalize (u4.alloc (.cells #[.int .i64 f.kind, .int .i64 f.lit.atom.kind, .string f.lit.atom.a.name, .slice b3 f.lit.atom.a.kids.length d3, .string f.lit.atom.b.name, .slice b5 f.lit.atom.b.kids.length d5, .slice b6 f.lit.atom.nums.length d6, .slice b7 f.lit.atom.times.length d7, .int .i64 f.lit.atom.bound, .bool f.lit.atom.strict, .bool f.lit.no, .slice b11 f.kids.length d11, .int .i64 f.kind, .int .i64 f.lit.atom.kind, .string f.lit.atom.a.name, .slice b3 f.lit.atom.a.kids.length d3, .string f.lit.atom.b.name, .slice b5 f.lit.atom.b.kids.length d5, .slice b6 f.lit.atom.nums.length d6, .slice b7 f.lit.atom.times.length d7, .int .i64 f.lit.atom.bound, .bool f.lit.atom.strict, .bool f.lit.no, .slice b11 f.kids.length d11] 43)).alloc (.cells #[.int .i64 5, .int .i64 0, .string ⟨#[]⟩, .slice none 0 0, .string ⟨#[]⟩, .slice none 0 0, .slice none 0 0, .slice none 0 0, .int .i64 0, .bool false, .bool false, .slice (some ⟨kp5, 0, none⟩) 2 2] 43) = u5 at *
      clear q0 q1 q2 q3 q4 q5 q6 q7 q8 q9 q10 q11
      have q0 := hX.2.1 0 _ rfl
      have q1 := hX.2.1 1 _ rfl
      have q2 := hX.2.1 2 _ rfl
      have q3 := hX.2.1 3 _ rfl
      have q4 := hX.2.1 4 _ rfl
      have q5 := hX.2.1 5 _ rfl
      have q6 := hX.2.1 6 _ rfl
      have q7 := hX.2.1 7 _ rfl
      have q8 := hX.2.1 8 _ rfl
      have q9 := hX.2.1 9 _ rfl
      have q10 := hX.2.1 10 _ rfl
      have q11 := hX.2.1 11 _ rfl
      go_upto_region 16 with fail
      obtain ⟨kp6, hkp6⟩ : ∃ q, q = u5.heap.size := ⟨_, rfl⟩
      obtain ⟨xp6, hxp6⟩ : ∃ q, q = kp6 + 1 := ⟨_, rfl⟩
      have hrp6 : Rd (u5.alloc (.cells #[.int .i64 f.kind, .int .i64 f.lit.atom.kind, .string f.lit.atom.a.name, .slice b3 f.lit.atom.a.kids.length d3, .string f.lit.atom.b.name, .slice b5 f.lit.atom.b.kids.length d5, .slice b6 f.lit.atom.nums.length d6, .slice b7 f.lit.atom.times.length d7, .int .i64 f.lit.atom.bound, .bool f.lit.atom.strict, .bool f.lit.no, .slice b11 f.kids.length d11, .int .i64 f.kind, .int .i64 f.lit.atom.kind, .string f.lit.atom.a.name, .slice b3 f.lit.atom.a.kids.length d3, .string f.lit.atom.b.name, .slice b5 f.lit.atom.b.kids.length d5, .slice b6 f.lit.atom.nums.length d6, .slice b7 f.lit.atom.times.length d7, .int .i64 f.lit.atom.bound, .bool f.lit.atom.strict, .bool f.lit.no, .slice b11 f.kids.length d11] 43)) (.sl ([f, f].map Fm.cd)) (.slice (some ⟨u5.heap.size, 0, none⟩) 2 2) _ := kids2 hrf hrf 43
      have hXp6 := Box.new (u5.alloc (.cells #[.int .i64 f.kind, .int .i64 f.lit.atom.kind, .string f.lit.atom.a.name, .slice b3 f.lit.atom.a.kids.length d3, .string f.lit.atom.b.name, .slice b5 f.lit.atom.b.kids.length d5, .slice b6 f.lit.atom.nums.length d6, .slice b7 f.lit.atom.times.length d7, .int .i64 f.lit.atom.bound, .bool f.lit.atom.strict, .bool f.lit.no, .slice b11 f.kids.length d11, .int .i64 f.kind, .int .i64 f.lit.atom.kind, .string f.lit.atom.a.name, .slice b3 f.lit.atom.a.kids.length d3, .string f.lit.atom.b.name, .slice b5 f.lit.atom.b.kids.length d5, .slice b6 f.lit.atom.nums.length d6, .slice b7 f.lit.atom.times.length d7, .int .i64 f.lit.atom.bound, .bool f.lit.atom.strict, .bool f.lit.no, .slice b11 f.kids.length d11] 43)) [.int .i64 6, .int .i64 0, .string ⟨#[]⟩, .slice none 0 0, .string ⟨#[]⟩, .slice none 0 0, .slice none 0 0, .slice none 0 0, .int .i64 0, .bool false, .bool false, .slice (some ⟨u5.heap.size, 0, none⟩) 2 2] 43
      rw [World.size_alloc] at hXp6
      rw [← hkp6, ← hxp6] at hXp6
      rw [← hkp6] at hrp6
      rw [← hkp6]
      try rw [← hxp6]
      have hba : Below u5.heap.size u5 ((u5.alloc (.cells #[.int .i64 f.kind, .int .i64 f.lit.atom.kind, .string f.lit.atom.a.name, .slice b3 f.lit.atom.a.kids.length d3, .string f.lit.atom.b.name, .slice b5 f.lit.atom.b.kids.length d5, .slice b6 f.lit.atom.nums.length d6, .slice b7 f.lit.atom.times.length d7, .int .i64 f.lit.atom.bound, .bool f.lit.atom.strict, .bool f.lit.no, .slice b11 f.kids.length d11, .int .i64 f.kind, .int .i64 f.lit.atom.kind, .string f.lit.atom.a.name, .slice b3 f.lit.atom.a.kids.length d3, .string f.lit.atom.b.name, .slice b5 f.lit.atom.b.kids.length d5, .slice b6 f.lit.atom.nums.length d6, .slice b7 f.lit.atom.times.length d7, .int .i64 f.lit.atom.bound, .bool f.lit.atom.strict, .bool f.lit.no, .slice b11 f.kids.length d11] 43)).alloc (.cells #[.int .i64 6, .int .i64 0, .string ⟨#[]⟩, .slice none 0 0, .string ⟨#[]⟩, .slice none 0 0, .slice none 0 0, .slice none 0 0, .int .i64 0, .bool false, .bool false, .slice (some ⟨kp6, 0, none⟩) 2 2] 43)) := ((Below.refl _ _).alloc (Nat.le_refl _) _).alloc (by simp) _
      have hfp6 := (fm_mk (k := 6) (by unfold I64; simp) hrp6).below (below_alloc _ (.cells #[.int .i64 6, .int .i64 0, .string ⟨#[]⟩, .slice none 0 0, .string ⟨#[]⟩, .slice none 0 0, .slice none 0 0, .slice none 0 0, .int .i64 0, .bool false, .bool false, .slice (some ⟨kp6, 0, none⟩) 2 2] 43))
      replace hX := hX.below hba
      replace hrf := hrf.below hba
      replace hbv := hbv.below hba
      replace hXp3 := hXp3.below hba
      replace hfp3 := hfp3.below hba
      replace hXp4 := hXp4.below hba
      replace hfp4 := hfp4.below hba
      replace hXp5 := hXp5.below hba
      replace hfp5 := hfp5.below hba
      replace hB := hB.trans (hba.mono hB.size)
      clear hba hkp6 hxp6 hrp6
      generalize (u5.alloc (.cells #[.int .i64 f.kind, .int .i64 f.lit.atom.kind, .string f.lit.atom.a.name, .slice b3 f.lit.atom.a.kids.length d3, .string f.lit.atom.b.name, .slice b5 f.lit.atom.b.kids.length d5, .slice b6 f.lit.atom.nums.length d6, .slice b7 f.lit.atom.times.length d7, .int .i64 f.lit.atom.bound, .bool f.lit.atom.strict, .bool f.lit.no, .slice b11 f.kids.length d11, .int .i64 f.kind, .int .i64 f.lit.atom.kind, .string f.lit.atom.a.name, .slice b3 f.lit.atom.a.kids.length d3, .string f.lit.atom.b.name, .slice b5 f.lit.atom.b.kids.length d5, .slice b6 f.lit.atom.nums.length d6, .slice b7 f.lit.atom.times.length d7, .int .i64 f.lit.atom.bound, .bool f.lit.atom.strict, .bool f.lit.no, .slice b11 f.kids.length d11] 43)).alloc (.cells #[.int .i64 6, .int .i64 0, .string ⟨#[]⟩, .slice none 0 0, .string ⟨#[]⟩, .slice none 0 0, .slice none 0 0, .slice none 0 0, .int .i64 0, .bool false, .bool false, .slice (some ⟨kp6, 0, none⟩) 2 2] 43) = u6 at *
      clear q0 q1 q2 q3 q4 q5 q6 q7 q8 q9 q10 q11
      have q0 := hXp3.2.1 0 _ rfl
      have q1 := hXp3.2.1 1 _ rfl
      have q2 := hXp3.2.1 2 _ rfl
      have q3 := hXp3.2.1 3 _ rfl
      have q4 := hXp3.2.1 4 _ rfl
      have q5 := hXp3.2.1 5 _ rfl
      have q6 := hXp3.2.1 6 _ rfl
      have q7 := hXp3.2.1 7 _ rfl
      have q8 := hXp3.2.1 8 _ rfl
      have q9 := hXp3.2.1 9 _ rfl
      have q10 := hXp3.2.1 10 _ rfl
      have q11 := hXp3.2.1 11 _ rfl
      obtain ⟨t3, p3, H3⟩ : ∃ a b, Hid (isF (binF 3 f f) bs = (a, b)) := ⟨_, _, Lib.hid rfl⟩
      have hw := bin_wt 3 f f
      go_wp2_with fail
      refine (formIs_any (binF 3 f f) bs _ _ _ _ _ (by omega) (by exact hfp3) (by exact hbv) t3 p3 H3.out).mono ?_
      rintro e r3 ⟨rfl, hb⟩
      replace hbv := hbv.below hb
      replace hXp4 := hXp4.below hb
      replace hfp4 := hfp4.below hb
      replace hXp5 := hXp5.below hb
      replace hfp5 := hfp5.below hb
      replace hXp6 := hXp6.below hb
      replace hfp6 := hfp6.below hb
      replace hB := hB.trans (hb.mono hB.size)
      clear hb hw q0 q1 q2 q3 q4 q5 q6 q7 q8 q9 q10 q11
      have q0 := hXp4.2.1 0 _ rfl
      have q1 := hXp4.2.1 1 _ rfl
      have q2 := hXp4.2.1 2 _ rfl
      have q3 := hXp4.2.1 3 _ rfl
      have q4 := hXp4.2.1 4 _ rfl
      have q5 := hXp4.2.1 5 _ rfl
      have q6 := hXp4.2.1 6 _ rfl
      have q7 := hXp4.2.1 7 _ rfl
      have q8 := hXp4.2.1 8 _ rfl
      have q9 := hXp4.2.1 9 _ rfl
      have q10 := hXp4.2.1 10 _ rfl
      have q11 := hXp4.2.1 11 _ rfl
      obtain ⟨t4, p4, H4⟩ : ∃ a b, Hid (isF (binF 4 f f) bs = (a, b)) := ⟨_, _, Lib.hid rfl⟩
      have hw := bin_wt 4 f f
      go_wp2_with fail
      refine (formIs_any (binF 4 f f) bs _ _ _ _ _ (by omega) (by exact hfp4) (by exact hbv) t4 p4 H4.out).mono ?_
      rintro e r4 ⟨rfl, hb⟩
      replace hbv := hbv.below hb
      replace hXp5 := hXp5.below hb
      replace hfp5 := hfp5.below hb
      replace hXp6 := hXp6.below hb
      replace hfp6 := hfp6.below hb
      replace hB := hB.trans (hb.mono hB.size)
      clear hb hw q0 q1 q2 q3 q4 q5 q6 q7 q8 q9 q10 q11
      have q0 := hXp5.2.1 0 _ rfl
      have q1 := hXp5.2.1 1 _ rfl
      have q2 := hXp5.2.1 2 _ rfl
      have q3 := hXp5.2.1 3 _ rfl
      have q4 := hXp5.2.1 4 _ rfl
      have q5 := hXp5.2.1 5 _ rfl
      have q6 := hXp5.2.1 6 _ rfl
      have q7 := hXp5.2.1 7 _ rfl
      have q8 := hXp5.2.1 8 _ rfl
      have q9 := hXp5.2.1 9 _ rfl
      have q10 := hXp5.2.1 10 _ rfl
      have q11 := hXp5.2.1 11 _ rfl
      obtain ⟨t5, p5, H5⟩ : ∃ a b, Hid (isF (binF 5 f f) bs = (a, b)) := ⟨_, _, Lib.hid rfl⟩
      have hw := bin_wt 5 f f
      go_wp2_with fail
      refine (formIs_any (binF 5 f f) bs _ _ _ _ _ (by omega) (by exact hfp5) (by exact hbv) t5 p5 H5.out).mono ?_
      rintro e r5 ⟨rfl, hb⟩
      replace hbv := hbv.below hb
      replace hXp6 := hXp6.below hb
      replace hfp6 := hfp6.below hb
      replace hB := hB.trans (hb.mono hB.size)
      clear hb hw q0 q1 q2 q3 q4 q5 q6 q7 q8 q9 q10 q11
      have q0 := hXp6.2.1 0 _ rfl
      have q1 := hXp6.2.1 1 _ rfl
      have q2 := hXp6.2.1 2 _ rfl
      have q3 := hXp6.2.1 3 _ rfl
      have q4 := hXp6.2.1 4 _ rfl
      have q5 := hXp6.2.1 5 _ rfl
      have q6 := hXp6.2.1 6 _ rfl
      have q7 := hXp6.2.1 7 _ rfl
      have q8 := hXp6.2.1 8 _ rfl
      have q9 := hXp6.2.1 9 _ rfl
      have q10 := hXp6.2.1 10 _ rfl
      have q11 := hXp6.2.1 11 _ rfl
      obtain ⟨t6, p6, H6⟩ : ∃ a b, Hid (isF (binF 6 f f) bs = (a, b)) := ⟨_, _, Lib.hid rfl⟩
      have hw := bin_wt 6 f f
      go_wp2_with fail
      refine (formIs_any (binF 6 f f) bs _ _ _ _ _ (by omega) (by exact hfp6) (by exact hbv) t6 p6 H6.out).mono ?_
      rintro e r6 ⟨rfl, hb⟩
      replace hbv := hbv.below hb
      replace hB := hB.trans (hb.mono hB.size)
      clear hb hw q0 q1 q2 q3 q4 q5 q6 q7 q8 q9 q10 q11
      have h3 : p3 = true → t3 = so := fun h => by have := bin_law (by decide) HI.out (h ▸ H3.out); simpa [joinB] using this
      have h4 : p4 = true → t4 = so := fun h => by have := bin_law (by decide) HI.out (h ▸ H4.out); simpa [joinB] using this
      have h5 : p5 = true → t5 = true := fun h => by have := bin_law (by decide) HI.out (h ▸ H5.out); rw [this]; cases so <;> rfl
      have h6 : p6 = true → t6 = true := fun h => by have := bin_law (by decide) HI.out (h ▸ H6.out); rw [this]; cases so <;> rfl
      clear H3 H4 H5 H6 HI HT
      cases p3 <;> cases p4 <;> cases p5 <;> cases p6
      all_goals
        try obtain rfl := h3 rfl
        try obtain rfl := h4 rfl
        try obtain rfl := h5 rfl
        try obtain rfl := h6 rfl
        clear h3 h4 h5 h6
        go_wp2_with fail
        go_ret
        exact ⟨rfl, hB⟩
    · obtain rfl := hpt rfl
      clear hpt
      have q0 := hX.2.1 0 _ rfl
      have q1 := hX.2.1 1 _ rfl
      have q2 := hX.2.1 2 _ rfl
      have q3 := hX.2.1 3 _ rfl
      have q4 := hX.2.1 4 _ rfl
      have q5 := hX.2.1 5 _ rfl
      have q6 := hX.2.1 6 _ rfl
      have q7 := hX.2.1 7 _ rfl
      have q8 := hX.2.1 8 _ rfl
      have q9 := hX.2.1 9 _ rfl
      have q10 := hX.2.1 10 _ rfl
      have q11 := hX.2.1 11 _ rfl
      go_upto_region 13 with fail
      obtain ⟨kp3, hkp3⟩ : ∃ q, q = w6.heap.size := ⟨_, rfl⟩
      obtain ⟨xp3, hxp3⟩ : ∃ q, q = kp3 + 1 := ⟨_, rfl⟩
      have hrp3 : Rd (w6.alloc (.cells #[.int .i64 f.kind, .int .i64 f.lit.atom.kind, .string f.lit.atom.a.name, .slice b3 f.lit.atom.a.kids.length d3, .string f.lit.atom.b.name, .slice b5 f.lit.atom.b.kids.length d5, .slice b6 f.lit.atom.nums.length d6, .slice b7 f.lit.atom.times.length d7, .int .i64 f.lit.atom.bound, .bool f.lit.atom.strict, .bool f.lit.no, .slice b11 f.kids.length d11, .int .i64 f.kind, .int .i64 f.lit.atom.kind, .string f.lit.atom.a.name, .slice b3 f.lit.atom.a.kids.length d3, .string f.lit.atom.b.name, .slice b5 f.lit.atom.b.kids.length d5, .slice b6 f.lit.atom.nums.length d6, .slice b7 f.lit.atom.times.length d7, .int .i64 f.lit.atom.bound, .bool f.lit.atom.strict, .bool f.lit.no, .slice b11 f.kids.length d11] 43)) (.sl ([f, f].map Fm.cd)) (.slice (some ⟨w6.heap.size, 0, none⟩) 2 2) _ := kids2 hrf hrf 43
      have hXp3 := Box.new (w6.alloc (.cells #[.int .i64 f.kind, .int .i64 f.lit.atom.kind, .string f.lit.atom.a.name, .slice b3 f.lit.atom.a.kids.length d3, .string f.lit.atom.b.name, .slice b5 f.lit.atom.b.kids.length d5, .slice b6 f.lit.atom.nums.length d6, .slice b7 f.lit.atom.times.length d7, .int .i64 f.lit.atom.bound, .bool f.lit.atom.strict, .bool f.lit.no, .slice b11 f.kids.length d11, .int .i64 f.kind, .int .i64 f.lit.atom.kind, .string f.lit.atom.a.name, .slice b3 f.lit.atom.a.kids.length d3, .string f.lit.atom.b.name, .slice b5 f.lit.atom.b.kids.length d5, .slice b6 f.lit.atom.nums.length d6, .slice b7 f.lit.atom.times.length d7, .int .i64 f.lit.atom.bound, .bool f.lit.atom.strict, .bool f.lit.no, .slice b11 f.kids.length d11] 43)) [.int .i64 3, .int .i64 0, .string ⟨#[]⟩, .slice none 0 0, .string ⟨#[]⟩, .slice none 0 0, .slice none 0 0, .slice none 0 0, .int .i64 0, .bool false, .bool false, .slice (some ⟨w6.heap.size, 0, none⟩) 2 2] 43
      rw [World.size_alloc] at hXp3
      rw [← hkp3, ← hxp3] at hXp3
      rw [← hkp3] at hrp3
      rw [← hkp3]
      try rw [← hxp3]
      have hba : Below w6.heap.size w6 ((w6.alloc (.cells #[.int .i64 f.kind, .int .i64 f.lit.atom.kind, .string f.lit.atom.a.name, .slice b3 f.lit.atom.a.kids.length d3, .string f.lit.atom.b.name, .slice b5 f.lit.atom.b.kids.length d5, .slice b6 f.lit.atom.nums.length d6, .slice b7 f.lit.atom.times.length d7, .int .i64 f.lit.atom.bound, .bool f.lit.atom.strict, .bool f.lit.no, .slice b11 f.kids.length d11, .int .i64 f.kind, .int .i64 f.lit.atom.kind, .string f.lit.atom.a.name, .slice b3 f.lit.atom.a.kids.length d3, .string f.lit.atom.b.name, .slice b5 f.lit.atom.b.kids.length d5, .slice b6 f.lit.atom.nums.length d6, .slice b7 f.lit.atom.times.length d7, .int .i64 f.lit.atom.bound, .bool f.lit.atom.strict, .bool f.lit.no, .slice b11 f.kids.length d11] 43)).alloc (.cells #[.int .i64 3, .int .i64 0, .string ⟨#[]⟩, .slice none 0 0, .string ⟨#[]⟩, .slice none 0 0, .slice none 0 0, .slice none 0 0, .int .i64 0, .bool false, .bool false, .slice (some ⟨kp3, 0, none⟩) 2 2] 43)) := ((Below.refl _ _).alloc (Nat.le_refl _) _).alloc (by simp) _
      have hfp3 := (fm_mk (k := 3) (by unfold I64; simp) hrp3).below (below_alloc _ (.cells #[.int .i64 3, .int .i64 0, .string ⟨#[]⟩, .slice none 0 0, .string ⟨#[]⟩, .slice none 0 0, .slice none 0 0, .slice none 0 0, .int .i64 0, .bool false, .bool false, .slice (some ⟨kp3, 0, none⟩) 2 2] 43))
      replace hX := hX.below hba
      replace hrf := hrf.below hba
      replace hbv := hbv.below hba
      replace hB := hB.trans (hba.mono hB.size)
      clear hba hkp3 hxp3 hrp3
      generalize (w6.alloc (.cells #[.int .i64 f.kind, .int .i64 f.lit.atom.kind, .string f.lit.atom.a.name, .slice b3 f.lit.atom.a.kids.length d3, .string f.lit.atom.b.name, .slice b5 f.lit.atom.b.kids.length d5, .slice b6 f.lit.atom.nums.length d6, .slice b7 f.lit.atom.times.length d7, .int .i64 f.lit.atom.bound, .bool f.lit.atom.strict, .bool f.lit.no, .slice b11 f.kids.length d11, .int .i64 f.kind, .int .i64 f.lit.atom.kind, .string f.lit.atom.a.name, .slice b3 f.lit.atom.a.kids.length d3, .string f.lit.atom.b.name, .slice b5 f.lit.atom.b.kids.length d5, .slice b6 f.lit.atom.nums.length d6, .slice b7 f.lit.atom.times.length d7, .int .i64 f.lit.atom.bound, .bool f.lit.atom.strict, .bool f.lit.no, .slice b11 f.kids.length d11] 43)).alloc (.cells #[.int .i64 3, .int .i64 0, .string ⟨#[]⟩, .slice none 0 0, .string ⟨#[]⟩, .slice none 0 0, .slice none 0 0, .slice none 0 0, .int .i64 0, .bool false, .bool false, .slice (some ⟨kp3, 0, none⟩) 2 2] 43) = u3 at *
      clear q0 q1 q2 q3 q4 q5 q6 q7 q8 q9 q10 q11
      have q0 := hX.2.1 0 _ rfl
      have q1 := hX.2.1 1 _ rfl
      have q2 := hX.2.1 2 _ rfl
      have q3 := hX.2.1 3 _ rfl
      have q4 := hX.2.1 4 _ rfl
      have q5 := hX.2.1 5 _ rfl
      have q6 := hX.2.1 6 _ rfl
      have q7 := hX.2.1 7 _ rfl
      have q8 := hX.2.1 8 _ rfl
      have q9 := hX.2.1 9 _ rfl
      have q10 := hX.2.1 10 _ rfl
      have q11 := hX.2.1 11 _ rfl
      go_upto_region 14 with fail
      obtain ⟨kp4, hkp4⟩ : ∃ q, q = u3.heap.size := ⟨_, rfl⟩
      obtain ⟨xp4, hxp4⟩ : ∃ q, q = kp4 + 1 := ⟨_, rfl⟩
      have hrp4 : Rd (u3.alloc (.cells #[.int .i64 f.kind, .int .i64 f.lit.atom.kind, .string f.lit.atom.a.name, .slice b3 f.lit.atom.a.kids.length d3, .string f.lit.atom.b.name, .slice b5 f.lit.atom.b.kids.length d5, .slice b6 f.lit.atom.nums.length d6, .slice b7 f.lit.atom.times.length d7, .int .i64 f.lit.atom.bound, .bool f.lit.atom.strict, .bool f.lit.no, .slice b11 f.kids.length d11, .int .i64 f.kind, .int .i64 f.lit.atom.kind, .string f.lit.atom.a.name, .slice b3 f.lit.atom.a.kids.length d3, .string f.lit.atom.b.name, .slice b5 f.lit.atom.b.kids.length d5, .slice b6 f.lit.atom.nums.length d6, .slice b7 f.lit.atom.times.length d7, .int .i64 f.lit.atom.bound, .bool f.lit.atom.strict, .bool f.lit.no, .slice b11 f.kids.length d11] 43)) (.sl ([f, f].map Fm.cd)) (.slice (some ⟨u3.heap.size, 0, none⟩) 2 2) _ := kids2 hrf hrf 43
      have hXp4 := Box.new (u3.alloc (.cells #[.int .i64 f.kind, .int .i64 f.lit.atom.kind, .string f.lit.atom.a.name, .slice b3 f.lit.atom.a.kids.length d3, .string f.lit.atom.b.name, .slice b5 f.lit.atom.b.kids.length d5, .slice b6 f.lit.atom.nums.length d6, .slice b7 f.lit.atom.times.length d7, .int .i64 f.lit.atom.bound, .bool f.lit.atom.strict, .bool f.lit.no, .slice b11 f.kids.length d11, .int .i64 f.kind, .int .i64 f.lit.atom.kind, .string f.lit.atom.a.name, .slice b3 f.lit.atom.a.kids.length d3, .string f.lit.atom.b.name, .slice b5 f.lit.atom.b.kids.length d5, .slice b6 f.lit.atom.nums.length d6, .slice b7 f.lit.atom.times.length d7, .int .i64 f.lit.atom.bound, .bool f.lit.atom.strict, .bool f.lit.no, .slice b11 f.kids.length d11] 43)) [.int .i64 4, .int .i64 0, .string ⟨#[]⟩, .slice none 0 0, .string ⟨#[]⟩, .slice none 0 0, .slice none 0 0, .slice none 0 0, .int .i64 0, .bool false, .bool false, .slice (some ⟨u3.heap.size, 0, none⟩) 2 2] 43
      rw [World.size_alloc] at hXp4
      rw [← hkp4, ← hxp4] at hXp4
      rw [← hkp4] at hrp4
      rw [← hkp4]
      try rw [← hxp4]
      have hba : Below u3.heap.size u3 ((u3.alloc (.cells #[.int .i64 f.kind, .int .i64 f.lit.atom.kind, .string f.lit.atom.a.name, .slice b3 f.lit.atom.a.kids.length d3, .string f.lit.atom.b.name, .slice b5 f.lit.atom.b.kids.length d5, .slice b6 f.lit.atom.nums.length d6, .slice b7 f.lit.atom.times.length d7, .int .i64 f.lit.atom.bound, .bool f.lit.atom.strict, .bool f.lit.no, .slice b11 f.kids.length d11, .int .i64 f.kind, .int .i64 f.lit.atom.kind, .string f.lit.atom.a.name, .slice b3 f.lit.atom.a.kids.length d3, .string f.lit.atom.b.name, .slice b5 f.lit.atom.b.kids.length d5, .slice b6 f.lit.atom.nums.length d6, .slice b7 f.lit.atom.times.length d7, .int .i64 f.lit.atom.bound, .bool f.lit.atom.strict, .bool f.lit.no, .slice b11 f.kids.length d11] 43)).alloc (.cells #[.int .i64 4, .int .i64 0, .string ⟨#[]⟩, .slice none 0 0, .string ⟨#[]⟩, .slice none 0 0, .slice none 0 0, .slice none 0 0, .int .i64 0, .bool false, .bool false, .slice (some ⟨kp4, 0, none⟩) 2 2] 43)) := ((Below.refl _ _).alloc (Nat.le_refl _) _).alloc (by simp) _
      have hfp4 := (fm_mk (k := 4) (by unfold I64; simp) hrp4).below (below_alloc _ (.cells #[.int .i64 4, .int .i64 0, .string ⟨#[]⟩, .slice none 0 0, .string ⟨#[]⟩, .slice none 0 0, .slice none 0 0, .slice none 0 0, .int .i64 0, .bool false, .bool false, .slice (some ⟨kp4, 0, none⟩) 2 2] 43))
      replace hX := hX.below hba
      replace hrf := hrf.below hba
      replace hbv := hbv.below hba
      replace hXp3 := hXp3.below hba
      replace hfp3 := hfp3.below hba
      replace hB := hB.trans (hba.mono hB.size)
      clear hba hkp4 hxp4 hrp4
      generalize (u3.alloc (.cells #[.int .i64 f.kind, .int .i64 f.lit.atom.kind, .string f.lit.atom.a.name, .slice b3 f.lit.atom.a.kids.length d3, .string f.lit.atom.b.name, .slice b5 f.lit.atom.b.kids.length d5, .slice b6 f.lit.atom.nums.length d6, .slice b7 f.lit.atom.times.length d7, .int .i64 f.lit.atom.bound, .bool f.lit.atom.strict, .bool f.lit.no, .slice b11 f.kids.length d11, .int .i64 f.kind, .int .i64 f.lit.atom.kind, .string f.lit.atom.a.name, .slice b3 f.lit.atom.a.kids.length d3, .string f.lit.atom.b.name, .slice b5 f.lit.atom.b.kids.length d5, .slice b6 f.lit.atom.nums.length d6, .slice b7 f.lit.atom.times.length d7, .int .i64 f.lit.atom.bound, .bool f.lit.atom.strict, .bool f.lit.no, .slice b11 f.kids.length d11] 43)).alloc (.cells #[.int .i64 4, .int .i64 0, .string ⟨#[]⟩, .slice none 0 0, .string ⟨#[]⟩, .slice none 0 0, .slice none 0 0, .slice none 0 0, .int .i64 0, .bool false, .bool false, .slice (some ⟨kp4, 0, none⟩) 2 2] 43) = u4 at *
      clear q0 q1 q2 q3 q4 q5 q6 q7 q8 q9 q10 q11
      have q0 := hX.2.1 0 _ rfl
      have q1 := hX.2.1 1 _ rfl
      have q2 := hX.2.1 2 _ rfl
      have q3 := hX.2.1 3 _ rfl
      have q4 := hX.2.1 4 _ rfl
      have q5 := hX.2.1 5 _ rfl
      have q6 := hX.2.1 6 _ rfl
      have q7 := hX.2.1 7 _ rfl
      have q8 := hX.2.1 8 _ rfl
      have q9 := hX.2.1 9 _ rfl
      have q10 := hX.2.1 10 _ rfl
      have q11 := hX.2.1 11 _ rfl
      go_upto_region 15 with fail
      obtain ⟨kp5, hkp5⟩ : ∃ q, q = u4.heap.size := ⟨_, rfl⟩
      obtain ⟨xp5, hxp5⟩ : ∃ q, q = kp5 + 1 := ⟨_, rfl⟩
      have hrp5 : Rd (u4.alloc (.cells #[.int .i64 f.kind, .int .i64 f.lit.atom.kind, .string f.lit.atom.a.name, .slice b3 f.lit.atom.a.kids.length d3, .string f.lit.atom.b.name, .slice b5 f.lit.atom.b.kids.length d5, .slice b6 f.lit.atom.nums.length d6, .slice b7 f.lit.atom.times.length d7, .int .i64 f.lit.atom.bound, .bool f.lit.atom.strict, .bool f.lit.no, .slice b11 f.kids.length d11, .int .i64 f.kind, .int .i64 f.lit.atom.kind, .string f.lit.atom.a.name, .slice b3 f.lit.atom.a.kids.length d3, .string f.lit.atom.b.name, .slice b5 f.lit.atom.b.kids.length d5, .slice b6 f.lit.atom.nums.length d6, .slice b7 f.lit.atom.times.length d7, .int .i64 f.lit.atom.bound, .bool f.lit.atom.strict, .bool f.lit.no, .slice b11 f.kids.length d11] 43)) (.sl ([f, f].map Fm.cd)) (.slice (some ⟨u4.heap.size, 0, none⟩) 2 2) _ := kids2 hrf hrf 43
      have hXp5 := Box.new (u4.alloc (.cells #[.int .i64 f.kind, .int .i64 f.lit.atom.kind, .string f.lit.atom.a.name, .slice b3 f.lit.atom.a.kids.length d3, .string f.lit.atom.b.name, .slice b5 f.lit.atom.b.kids.length d5, .slice b6 f.lit.atom.nums.length d6, .slice b7 f.lit.atom.times.length d7, .int .i64 f.lit.atom.bound, .bool f.lit.atom.strict, .bool f.lit.no, .slice b11 f.kids.length d11, .int .i64 f.kind, .int .i64 f.lit.atom.kind, .string f.lit.atom.a.name, .slice b3 f.lit.atom.a.kids.length d3, .string f.lit.atom.b.name, .slice b5 f.lit.atom.b.kids.length d5, .slice b6 f.lit.atom.nums.length d6, .slice b7 f.lit.atom.times.length d7, .int .i64 f.lit.atom.bound, .bool f.lit.atom.strict, .bool f.lit.no, .slice b11 f.kids.length d11] 43)) [.int .i64 5, .int .i64 0, .string ⟨#[]⟩, .slice none 0 0, .string ⟨#[]⟩, .slice none 0 0, .slice none 0 0, .slice none 0 0, .int .i64 0, .bool false, .bool false, .slice (some ⟨u4.heap.size, 0, none⟩) 2 2] 43
      rw [World.size_alloc] at hXp5
      rw [← hkp5, ← hxp5] at hXp5
      rw [← hkp5] at hrp5
      rw [← hkp5]
      try rw [← hxp5]
      have hba : Below u4.heap.size u4 ((u4.alloc (.cells #[.int .i64 f.kind, .int .i64 f.lit.atom.kind, .string f.lit.atom.a.name, .slice b3 f.lit.atom.a.kids.length d3, .string f.lit.atom.b.name, .slice b5 f.lit.atom.b.kids.length d5, .slice b6 f.lit.atom.nums.length d6, .slice b7 f.lit.atom.times.length d7, .int .i64 f.lit.atom.bound, .bool f.lit.atom.strict, .bool f.lit.no, .slice b11 f.kids.length d11, .int .i64 f.kind, .int .i64 f.lit.atom.kind, .string f.lit.atom.a.name, .slice b3 f.lit.atom.a.kids.length d3, .string f.lit.atom.b.name, .slice b5 f.lit.atom.b.kids.length d5, .slice b6 f.lit.atom.nums.length d6, .slice b7 f.lit.atom.times.length d7, .int .i64 f.lit.atom.bound, .bool f.lit.atom.strict, .bool f.lit.no, .slice b11 f.kids.length d11] 43)).alloc (.cells #[.int .i64 5, .int .i64 0, .string ⟨#[]⟩, .slice none 0 0, .string ⟨#[]⟩, .slice none 0 0, .slice none 0 0, .slice none 0 0, .int .i64 0, .bool false, .bool false, .slice (some ⟨kp5, 0, none⟩) 2 2] 43)) := ((Below.refl _ _).alloc (Nat.le_refl _) _).alloc (by simp) _
      have hfp5 := (fm_mk (k := 5) (by unfold I64; simp) hrp5).below (below_alloc _ (.cells #[.int .i64 5, .int .i64 0, .string ⟨#[]⟩, .slice none 0 0, .string ⟨#[]⟩, .slice none 0 0, .slice none 0 0, .slice none 0 0, .int .i64 0, .bool false, .bool false, .slice (some ⟨kp5, 0, none⟩) 2 2] 43))
      replace hX := hX.below hba
      replace hrf := hrf.below hba
      replace hbv := hbv.below hba
      replace hXp3 := hXp3.below hba
      replace hfp3 := hfp3.below hba
      replace hXp4 := hXp4.below hba
      replace hfp4 := hfp4.below hba
      replace hB := hB.trans (hba.mono hB.size)
      clear hba hkp5 hxp5 hrp5
      generalize (u4.alloc (.cells #[.int .i64 f.kind, .int .i64 f.lit.atom.kind, .string f.lit.atom.a.name, .slice b3 f.lit.atom.a.kids.length d3, .string f.lit.atom.b.name, .slice b5 f.lit.atom.b.kids.length d5, .slice b6 f.lit.atom.nums.length d6, .slice b7 f.lit.atom.times.length d7, .int .i64 f.lit.atom.bound, .bool f.lit.atom.strict, .bool f.lit.no, .slice b11 f.kids.length d11, .int .i64 f.kind, .int .i64 f.lit.atom.kind, .string f.lit.atom.a.name, .slice b3 f.lit.atom.a.kids.length d3, .string f.lit.atom.b.name, .slice b5 f.lit.atom.b.kids.length d5, .slice b6 f.lit.atom.nums.length d6, .slice b7 f.lit.atom.times.length d7, .int .i64 f.lit.atom.bound, .bool f.lit.atom.strict, .bool f.lit.no, .slice b11 f.kids.length d11] 43)).alloc (.cells #[.int .i64 5, .int .i64 0, .string ⟨#[]⟩, .slice none 0 0, .string ⟨#[]⟩, .slice none 0 0, .slice none 0 0, .slice none 0 0, .int .i64 0, .bool false, .bool false, .slice (some ⟨kp5, 0, none⟩) 2 2] 43) = u5 at *
      clear q0 q1 q2 q3 q4 q5 q6 q7 q8 q9 q10 q11
      have q0 := hX.2.1 0 _ rfl
      have q1 := hX.2.1 1 _ rfl
      have q2 := hX.2.1 2 _ rfl
      have q3 := hX.2.1 3 _ rfl
      have q4 := hX.2.1 4 _ rfl
      have q5 := hX.2.1 5 _ rfl
      have q6 := hX.2.1 6 _ rfl
      have q7 := hX.2.1 7 _ rfl
      have q8 := hX.2.1 8 _ rfl
      have q9 := hX.2.1 9 _ rfl
      have q10 := hX.2.1 10 _ rfl
      have q11 := hX.2.1 11 _ rfl
      go_upto_region 16 with fail
      obtain ⟨kp6, hkp6⟩ : ∃ q, q = u5.heap.size := ⟨_, rfl⟩
      obtain ⟨xp6, hxp6⟩ : ∃ q, q = kp6 + 1 := ⟨_, rfl⟩
      have hrp6 : Rd (u5.alloc (.cells #[.int .i64 f.kind, .int .i64 f.lit.atom.kind, .string f.lit.atom.a.name, .slice b3 f.lit.atom.a.kids.length d3, .string f.lit.atom.b.name, .slice b5 f.lit.atom.b.kids.length d5, .slice b6 f.lit.atom.nums.length d6, .slice b7 f.lit.atom.times.length d7, .int .i64 f.lit.atom.bound, .bool f.lit.atom.strict, .bool f.lit.no, .slice b11 f.kids.length d11, .int .i64 f.kind, .int .i64 f.lit.atom.kind, .string f.lit.atom.a.name, .slice b3 f.lit.atom.a.kids.length d3, .string f.lit.atom.b.name, .slice b5 f.lit.atom.b.kids.length d5, .slice b6 f.lit.atom.nums.length d6, .slice b7 f.lit.atom.times.length d7, .int .i64 f.lit.atom.bound, .bool f.lit.atom.strict, .bool f.lit.no, .slice b11 f.kids.length d11] 43)) (.sl ([f, f].map Fm.cd)) (.slice (some ⟨u5.heap.size, 0, none⟩) 2 2) _ := kids2 hrf hrf 43
      have hXp6 := Box.new (u5.alloc (.cells #[.int .i64 f.kind, .int .i64 f.lit.atom.kind, .string f.lit.atom.a.name, .slice b3 f.lit.atom.a.kids.length d3, .string f.lit.atom.b.name, .slice b5 f.lit.atom.b.kids.length d5, .slice b6 f.lit.atom.nums.length d6, .slice b7 f.lit.atom.times.length d7, .int .i64 f.lit.atom.bound, .bool f.lit.atom.strict, .bool f.lit.no, .slice b11 f.kids.length d11, .int .i64 f.kind, .int .i64 f.lit.atom.kind, .string f.lit.atom.a.name, .slice b3 f.lit.atom.a.kids.length d3, .string f.lit.atom.b.name, .slice b5 f.lit.atom.b.kids.length d5, .slice b6 f.lit.atom.nums.length d6, .slice b7 f.lit.atom.times.length d7, .int .i64 f.lit.atom.bound, .bool f.lit.atom.strict, .bool f.lit.no, .slice b11 f.kids.length d11] 43)) [.int .i64 6, .int .i64 0, .string ⟨#[]⟩, .slice none 0 0, .string ⟨#[]⟩, .slice none 0 0, .slice none 0 0, .slice none 0 0, .int .i64 0, .bool false, .bool false, .slice (some ⟨u5.heap.size, 0, none⟩) 2 2] 43
      rw [World.size_alloc] at hXp6
      rw [← hkp6, ← hxp6] at hXp6
      rw [← hkp6] at hrp6
      rw [← hkp6]
      try rw [← hxp6]
      have hba : Below u5.heap.size u5 ((u5.alloc (.cells #[.int .i64 f.kind, .int .i64 f.lit.atom.kind, .string f.lit.atom.a.name, .slice b3 f.lit.atom.a.kids.length d3, .string f.lit.atom.b.name, .slice b5 f.lit.atom.b.kids.length d5, .slice b6 f.lit.atom.nums.length d6, .slice b7 f.lit.atom.times.length d7, .int .i64 f.lit.atom.bound, .bool f.lit.atom.strict, .bool f.lit.no, .slice b11 f.kids.length d11, .int .i64 f.kind, .int .i64 f.lit.atom.kind, .string f.lit.atom.a.name, .slice b3 f.lit.atom.a.kids.length d3, .string f.lit.atom.b.name, .slice b5 f.lit.atom.b.kids.length d5, .slice b6 f.lit.atom.nums.length d6, .slice b7 f.lit.atom.times.length d7, .int .i64 f.lit.atom.bound, .bool f.lit.atom.strict, .bool f.lit.no, .slice b11 f.kids.length d11] 43)).alloc (.cells #[.int .i64 6, .int .i64 0, .string ⟨#[]⟩, .slice none 0 0, .string ⟨#[]⟩, .slice none 0 0, .slice none 0 0, .slice none 0 0, .int .i64 0, .bool false, .bool false, .slice (some ⟨kp6, 0, none⟩) 2 2] 43)) := ((Below.refl _ _).alloc (Nat.le_refl _) _).alloc (by simp) _
      have hfp6 := (fm_mk (k := 6) (by unfold I64; simp) hrp6).below (below_alloc _ (.cells #[.int .i64 6, .int .i64 0, .string ⟨#[]⟩, .slice none 0 0, .string ⟨#[]⟩, .slice none 0 0, .slice none 0 0, .slice none 0 0, .int .i64 0, .bool false, .bool false, .slice (some ⟨kp6, 0, none⟩) 2 2] 43))
      replace hX := hX.below hba
      replace hrf := hrf.below hba
      replace hbv := hbv.below hba
      replace hXp3 := hXp3.below hba
      replace hfp3 := hfp3.below hba
      replace hXp4 := hXp4.below hba
      replace hfp4 := hfp4.below hba
      replace hXp5 := hXp5.below hba
      replace hfp5 := hfp5.below hba
      replace hB := hB.trans (hba.mono hB.size)
      clear hba hkp6 hxp6 hrp6
      generalize (u5.alloc (.cells #[.int .i64 f.kind, .int .i64 f.lit.atom.kind, .string f.lit.atom.a.name, .slice b3 f.lit.atom.a.kids.length d3, .string f.lit.atom.b.name, .slice b5 f.lit.atom.b.kids.length d5, .slice b6 f.lit.atom.nums.length d6, .slice b7 f.lit.atom.times.length d7, .int .i64 f.lit.atom.bound, .bool f.lit.atom.strict, .bool f.lit.no, .slice b11 f.kids.length d11, .int .i64 f.kind, .int .i64 f.lit.atom.kind, .string f.lit.atom.a.name, .slice b3 f.lit.atom.a.kids.length d3, .string f.lit.atom.b.name, .slice b5 f.lit.atom.b.kids.length d5, .slice b6 f.lit.atom.nums.length d6, .slice b7 f.lit.atom.times.length d7, .int .i64 f.lit.atom.bound, .bool f.lit.atom.strict, .bool f.lit.no, .slice b11 f.kids.length d11] 43)).alloc (.cells #[.int .i64 6, .int .i64 0, .string ⟨#[]⟩, .slice none 0 0, .string ⟨#[]⟩, .slice none 0 0, .slice none 0 0, .slice none 0 0, .int .i64 0, .bool false, .bool false, .slice (some ⟨kp6, 0, none⟩) 2 2] 43) = u6 at *
      clear q0 q1 q2 q3 q4 q5 q6 q7 q8 q9 q10 q11
      have q0 := hXp3.2.1 0 _ rfl
      have q1 := hXp3.2.1 1 _ rfl
      have q2 := hXp3.2.1 2 _ rfl
      have q3 := hXp3.2.1 3 _ rfl
      have q4 := hXp3.2.1 4 _ rfl
      have q5 := hXp3.2.1 5 _ rfl
      have q6 := hXp3.2.1 6 _ rfl
      have q7 := hXp3.2.1 7 _ rfl
      have q8 := hXp3.2.1 8 _ rfl
      have q9 := hXp3.2.1 9 _ rfl
      have q10 := hXp3.2.1 10 _ rfl
      have q11 := hXp3.2.1 11 _ rfl
      obtain ⟨t3, p3, H3⟩ : ∃ a b, Hid (isF (binF 3 f f) bs = (a, b)) := ⟨_, _, Lib.hid rfl⟩
      have hw := bin_wt 3 f f
      go_wp2_with fail
      refine (formIs_any (binF 3 f f) bs _ _ _ _ _ (by omega) (by exact hfp3) (by exact hbv) t3 p3 H3.out).mono ?_
      rintro e r3 ⟨rfl, hb⟩
      replace hbv := hbv.below hb
      replace hXp4 := hXp4.below hb
      replace hfp4 := hfp4.below hb
      replace hXp5 := hXp5.below hb
      replace hfp5 := hfp5.below hb
      replace hXp6 := hXp6.below hb
      replace hfp6 := hfp6.below hb
      replace hB := hB.trans (hb.mono hB.size)
      clear hb hw q0 q1 q2 q3 q4 q5 q6 q7 q8 q9 q10 q11
      have q0 := hXp4.2.1 0 _ rfl
      have q1 := hXp4.2.1 1 _ rfl
      have q2 := hXp4.2.1 2 _ rfl
      have q3 := hXp4.2.1 3 _ rfl
      have q4 := hXp4.2.1 4 _ rfl
      have q5 := hXp4.2.1 5 _ rfl
      have q6 := hXp4.2.1 6 _ rfl
      have q7 := hXp4.2.1 7 _ rfl
      have q8 := hXp4.2.1 8 _ rfl
      have q9 := hXp4.2.1 9 _ rfl
      have q10 := hXp4.2.1 10 _ rfl
      have q11 := hXp4.2.1 11 _ rfl
      obtain ⟨t4, p4, H4⟩ : ∃ a b, Hid (isF (binF 4 f f) bs = (a, b)) := ⟨_, _, Lib.hid rfl⟩
      have hw := bin_wt 4 f f
      go_wp2_with fail
      refine (formIs_any (binF 4 f f) bs _ _ _ _ _ (by omega) (by exact hfp4) (by exact hbv) t4 p4 H4.out).mono ?_
      rintro e r4 ⟨rfl, hb⟩
      replace hbv := hbv.below hb
      replace hXp5 := hXp5.below hb
      replace hfp5 := hfp5.below hb
      replace hXp6 := hXp6.below hb
      replace hfp6 := hfp6.below hb
      replace hB := hB.trans (hb.mono hB.size)
      clear hb hw q0 q1 q2 q3 q4 q5 q6 q7 q8 q9 q10 q11
      have q0 := hXp5.2.1 0 _ rfl
      have q1 := hXp5.2.1 1 _ rfl
      have q2 := hXp5.2.1 2 _ rfl
      have q3 := hXp5.2.1 3 _ rfl
      have q4 := hXp5.2.1 4 _ rfl
      have q5 := hXp5.2.1 5 _ rfl
      have q6 := hXp5.2.1 6 _ rfl
      have q7 := hXp5.2.1 7 _ rfl
      have q8 := hXp5.2.1 8 _ rfl
      have q9 := hXp5.2.1 9 _ rfl
      have q10 := hXp5.2.1 10 _ rfl
      have q11 := hXp5.2.1 11 _ rfl
      obtain ⟨t5, p5, H5⟩ : ∃ a b, Hid (isF (binF 5 f f) bs = (a, b)) := ⟨_, _, Lib.hid rfl⟩
      have hw := bin_wt 5 f f
      go_wp2_with fail
      refine (formIs_any (binF 5 f f) bs _ _ _ _ _ (by omega) (by exact hfp5) (by exact hbv) t5 p5 H5.out).mono ?_
      rintro e r5 ⟨rfl, hb⟩
      replace hbv := hbv.below hb
      replace hXp6 := hXp6.below hb
      replace hfp6 := hfp6.below hb
      replace hB := hB.trans (hb.mono hB.size)
      clear hb hw q0 q1 q2 q3 q4 q5 q6 q7 q8 q9 q10 q11
      have q0 := hXp6.2.1 0 _ rfl
      have q1 := hXp6.2.1 1 _ rfl
      have q2 := hXp6.2.1 2 _ rfl
      have q3 := hXp6.2.1 3 _ rfl
      have q4 := hXp6.2.1 4 _ rfl
      have q5 := hXp6.2.1 5 _ rfl
      have q6 := hXp6.2.1 6 _ rfl
      have q7 := hXp6.2.1 7 _ rfl
      have q8 := hXp6.2.1 8 _ rfl
      have q9 := hXp6.2.1 9 _ rfl
      have q10 := hXp6.2.1 10 _ rfl
      have q11 := hXp6.2.1 11 _ rfl
      obtain ⟨t6, p6, H6⟩ : ∃ a b, Hid (isF (binF 6 f f) bs = (a, b)) := ⟨_, _, Lib.hid rfl⟩
      have hw := bin_wt 6 f f
      go_wp2_with fail
      refine (formIs_any (binF 6 f f) bs _ _ _ _ _ (by omega) (by exact hfp6) (by exact hbv) t6 p6 H6.out).mono ?_
      rintro e r6 ⟨rfl, hb⟩
      replace hbv := hbv.below hb
      replace hB := hB.trans (hb.mono hB.size)
      clear hb hw q0 q1 q2 q3 q4 q5 q6 q7 q8 q9 q10 q11
      have h3 : p3 = true → t3 = so := fun h => by have := bin_law (by decide) HI.out (h ▸ H3.out); simpa [joinB] using this
      have h4 : p4 = true → t4 = so := fun h => by have := bin_law (by decide) HI.out (h ▸ H4.out); simpa [joinB] using this
      have h5 : p5 = true → t5 = true := fun h => by have := bin_law (by decide) HI.out (h ▸ H5.out); rw [this]; cases so <;> rfl
      have h6 : p6 = true → t6 = true := fun h => by have := bin_law (by decide) HI.out (h ▸ H6.out); rw [this]; cases so <;> rfl
      clear H3 H4 H5 H6 HI HT
      cases p3 <;> cases p4 <;> cases p5 <;> cases p6
      all_goals
        try obtain rfl := h3 rfl
        try obtain rfl := h4 rfl
        try obtain rfl := h5 rfl
        try obtain rfl := h6 rfl
        clear h3 h4 h5 h6
        go_wp2_with fail
        go_ret
        exact ⟨rfl, hB⟩
end Go.Proofs.Ytlhochahokbonaa
namespace Go.Proofs.Ytlhochahokbonaa.fnFormIs
open Go Go.ChangeShapes Go.WideShapes Go.ChangeAt Go.RowKit
set_option linter.unusedVariables false
theorem own : ownKnob Try.prog.godebug = none := by kernel_rfl
theorem laidOut : laidOutB Try.prog = true := by kernel_rfl
set_option maxRecDepth 100000 in
theorem lifted (os : Os) (started : os.Started) (H : Type) (enc : TypeId × Value → H) :
    ReturnsInHanded {} Try.checked os 4 .any (Rows.fnFormIsSpec.pre6 enc Try.prog Try.f4 Rows.fnFormIsRow.domain false) (Rows.fnFormIsSpec.post enc Try.prog Try.f4 false true false false) := by
  refine returnsInHanded_of_change (C := Try.checked) own started (by kernel_rfl) Try.func4
    (ChangeSpec.witness6 (enc := enc) (C := Try.checked) false ⟨#[], #[.slice none 0 0], []⟩ 8 (by kernel_rfl) (by kernel_rfl) (by kernel_rfl) (by kernel_rfl)) ?_
  intro W base args ds gs before hval0 hW hcnd _
  have hval : ∀ (j : Nat) t v, Try.f4.params[j]? = some t → args[j]? = some v → Value.okWide Try.prog W .any base t v := hval0
  have hW' := hW
  obtain ⟨p, q, hA0, hV, rfl, hfz, hnd⟩ := hW
  have hA : DataW.TrodAll enc Try.prog W 0 (fun _ => true) true Try.f4.params.toList args.toList ds p := hA0
  rw [Try.params4] at hA hval
  obtain ⟨v0, vs0, d0, ds0, p0, q0, hargs, rfl, rfl, h0, r0⟩ := trodAll_cons hA
  obtain ⟨rfl, rfl, rfl⟩ := trodAll_nil r0
  obtain rfl : args = #[v0] := by cases args; simp_all
  obtain ⟨rfl, rfl⟩ := trodVars_none hV
  obtain ⟨a0, len0, cap0, rfl⟩ := okWide_slice Try.underlying22 (hval 0 22 v0 rfl rfl)
  have k0 := h0
  have lt0 : ∀ x ∈ p0, x.block < W.heap.size := by obtain ⟨m, hm⟩ := k0; exact DataW.trod_lt m _ _ _ hm
  have hr0 : Byts W (.slice a0 len0 cap0) := by
    obtain ⟨fuel, hf⟩ := h0
    obtain ⟨v, hv, hr⟩ := open_Byts fuel _ _ hf
    exact list1 hv ▸ hr
  clear hA0 hval0
  have hwalk := formIsL_walk _ W hr0
  refine hwalk.mono fun e W' ⟨he, bel⟩ => ?_
  subst he
  exact ⟨_, rfl, _, _, _, [], _, [], hW', trodAll_mk1 (shut_bool Try.underlying4 _), (trodAll_cons_mk (Below.trod laidOut (by kernel_rfl) (of_decide_eq_true (by kernel_rfl)) k0 bel lt0) trodAll_mk0), rfl, bel.frame _, fun h => by cases h⟩
theorem named : Try.pinned.checked.prog.funcNamed Rows.fnFormIsRow.func = some 4 := by kernel_rfl
theorem and2 {a b : Bool} (h : a = true) (h' : b = true) : (a && b) = true := by rw [h, h']; rfl
set_option maxHeartbeats 8000000 in
theorem closed : joinedFacts Try.pinned.checked.prog 4 Try.f4 Rows.fnFormIsSpec Rows.fnFormIsRow = true := by
  unfold joinedFacts
  repeat' (with_reducible refine and2 ?_ ?_)
  all_goals (as_aux_lemma => kernel_rfl)
theorem plain : Try.f4.isInstance Try.pinned.checked.prog Rows.fnFormIsRow.origin Rows.fnFormIsRow.targs := of_decide_eq_true (by kernel_rfl)
theorem bare : Try.f4.isWrapper Try.pinned.checked.prog Rows.fnFormIsRow.wrapper Rows.fnFormIsRow.mainSum := by unfold Func.isWrapper; first | (rw [if_pos (by decide +kernel)]; kernel_rfl) | (rw [if_neg (by decide +kernel)]; exact ⟨rfl, rfl⟩)
theorem over : Rows.fnFormIsRow.holds Try.pinned (OpenSpec.ofChange Rows.fnFormIsSpec) :=
  OpenClaim.holds_of_wide 4 Try.f4 rfl rfl rfl rfl rfl rfl rfl ⟨rfl, rfl, rfl, rfl, rfl⟩ rfl rfl rfl rfl rfl named Try.func4 closed plain bare
    (fun os started H enc _ => lifted os started H enc)
theorem proved : Rows.FnFormIsSaid := over
end Go.Proofs.Ytlhochahokbonaa.fnFormIs
