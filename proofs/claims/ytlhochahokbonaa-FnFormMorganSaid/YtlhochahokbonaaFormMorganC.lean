/- For all bytes that come in, the law FnFormMorgan returns true and leaves its arguments as they were; there is no condition. -/
import Derived.Test.YtlhochahokbonaaPa46
import Derived.Test.YtlhochahokbonaaPa48
import Derived.Test.YtlhochahokbonaaPa47
import Derived.Test.YtlhochahokbonaaRows
import Derived.WalkKit
import Derived.ProofKit
import Derived.OpenShut
import Derived.ShutString
import Derived.ChangeOld
import Derived.Below
import Derived.Test.YtlhochahokbonaaPa4
namespace Go.Proofs.Ytlhochahokbonaa
open Go Go.RowKit
set_option linter.unusedVariables false
set_option linter.unusedSimpArgs false
set_option maxRecDepth 100000 in
set_option maxHeartbeats 8000000 in
theorem formMorganL_walk (v : Value) (w : World) (hv : Byts w v) :
    Calls Try.prog 5 #[v] w fun e w' => e = .returned (.bool true) ∧ Below w.heap.size w w' := by
  have hv0 := hv
  obtain ⟨a, n, cap, rfl, hn1, hn2, _⟩ := hv
  by_cases hlen : n ≤ 1048576
  rotate_left
  · have hlb : decide ((1048576 : Int) < (n : Int)) = true := by simp; omega
    go_enter Try.func5, Try.ntmps5
    go_wp2_with fail
    go_ret
    exact ⟨rfl, Below.refl _ _⟩
  have hlb : decide ((1048576 : Int) < (n : Int)) = false := by simp; omega
  go_enter Try.func5, Try.ntmps5
  go_wp2_with fail
  refine (drawFormIs_any _ _ hv0).mono ?_
  rintro e w1 ⟨⟨f, bs, b3, d3, b5, d5, b6, d6, b7, d7, b11, d11, bv, ff, g, hwf, rfl, hrf, hbv⟩, hB⟩
  obtain ⟨va, vc, rfl, _, _⟩ := rd_sl_inv hbv
  go_upto_region 4 with fail
  have hX := Box.new w1 [.int .i64 f.kind, .int .i64 f.lit.atom.kind, .string f.lit.atom.a.name, .slice b3 f.lit.atom.a.kids.length d3, .string f.lit.atom.b.name, .slice b5 f.lit.atom.b.kids.length d5, .slice b6 f.lit.atom.nums.length d6, .slice b7 f.lit.atom.times.length d7, .int .i64 f.lit.atom.bound, .bool f.lit.atom.strict, .bool f.lit.no, .slice b11 f.kids.length d11] 43
  obtain ⟨F, hF⟩ : ∃ F, F = w1.heap.size := ⟨_, rfl⟩
  rw [← hF] at hX ⊢
  clear hF
  have hba := below_alloc w1 (.cells #[.int .i64 f.kind, .int .i64 f.lit.atom.kind, .string f.lit.atom.a.name, .slice b3 f.lit.atom.a.kids.length d3, .string f.lit.atom.b.name, .slice b5 f.lit.atom.b.kids.length d5, .slice b6 f.lit.atom.nums.length d6, .slice b7 f.lit.atom.times.length d7, .int .i64 f.lit.atom.bound, .bool f.lit.atom.strict, .bool f.lit.no, .slice b11 f.kids.length d11] 43)
  replace hrf := hrf.below hba
  replace hbv := hbv.below hba
  replace hB := hB.trans (hba.mono hB.size)
  clear hba
  generalize w1.alloc (.cells #[.int .i64 f.kind, .int .i64 f.lit.atom.kind, .string f.lit.atom.a.name, .slice b3 f.lit.atom.a.kids.length d3, .string f.lit.atom.b.name, .slice b5 f.lit.atom.b.kids.length d5, .slice b6 f.lit.atom.nums.length d6, .slice b7 f.lit.atom.times.length d7, .int .i64 f.lit.atom.bound, .bool f.lit.atom.strict, .bool f.lit.no, .slice b11 f.kids.length d11] 43) = W at *
  obtain ⟨so, ok, HI⟩ : ∃ a b, Hid (isF f bs = (a, b)) := ⟨_, _, Lib.hid rfl⟩
  have q0 := hX.2.1 0 _ rfl
  have q1 := hX.2.1 1 _ rfl
  have q2 := hX.2.1 2 _ rfl
  have q3 := hX.2.1 3 _ rfl
  have q4 := hX.2.1 4 _ rfl
  have q5 := hX.2.1 5 _ rfl
  have q6 := hX.2.1 6 _ rfl
  have q7 := hX.2.1 7 _ rfl
  have q8 := hX.2.1 8 _ rfl
  have q9 := hX.2.1 9 _ rfl
  have q10 := hX.2.1 10 _ rfl
  have q11 := hX.2.1 11 _ rfl
  go_wp2_with fail
  refine (formIs_any f bs _ _ _ _ _ (by omega) (by exact hrf) (by exact hbv) so ok HI.out).mono ?_
  rintro e w2 ⟨rfl, hb2⟩
  replace hX := hX.below hb2
  replace hrf := hrf.below hb2
  replace hbv := hbv.below hb2
  replace hB := hB.trans (hb2.mono hB.size)
  clear hb2 q0 q1 q2 q3 q4 q5 q6 q7 q8 q9 q10 q11
  have q0 := hX.2.1 0 _ rfl
  have q1 := hX.2.1 1 _ rfl
  have q2 := hX.2.1 2 _ rfl
  have q3 := hX.2.1 3 _ rfl
  have q4 := hX.2.1 4 _ rfl
  have q5 := hX.2.1 5 _ rfl
  have q6 := hX.2.1 6 _ rfl
  have q7 := hX.2.1 7 _ rfl
  have q8 := hX.2.1 8 _ rfl
  have q9 := hX.2.1 9 _ rfl
  have q10 := hX.2.1 10 _ rfl
  have q11 := hX.2.1 11 _ rfl
  go_wp2_with fail
  refine (formIsS_any f bs _ _ _ _ _ (by omega) (by exact hrf) (by exact hbv) so ok HI.out).mono ?_
  rintro e w3 ⟨rfl, hb3⟩
  replace hX := hX.below hb3
  replace hrf := hrf.below hb3
  replace hbv := hbv.below hb3
  replace hB := hB.trans (hb3.mono hB.size)
  clear hb3 q0 q1 q2 q3 q4 q5 q6 q7 q8 q9 q10 q11
  have hs1 : (so != so) = false := by cases so <;> rfl
  have hs2 : (so == so) = true := by cases so <;> rfl
  have ho1 : (ok != ok) = false := by cases ok <;> rfl
  have ho2 : (ok == ok) = true := by cases ok <;> rfl
  cases ok
  · go_wp2_with fail
    go_ret
    exact ⟨rfl, hB⟩
  · have q0 := hX.2.1 0 _ rfl
    have q1 := hX.2.1 1 _ rfl
    have q2 := hX.2.1 2 _ rfl
    have q3 := hX.2.1 3 _ rfl
    have q4 := hX.2.1 4 _ rfl
    have q5 := hX.2.1 5 _ rfl
    have q6 := hX.2.1 6 _ rfl
    have q7 := hX.2.1 7 _ rfl
    have q8 := hX.2.1 8 _ rfl
    have q9 := hX.2.1 9 _ rfl
    have q10 := hX.2.1 10 _ rfl
    have q11 := hX.2.1 11 _ rfl
    by_cases hk : f.kind = 3 ∨ f.kind = 4
    rotate_left
    · have hk3 : (f.kind != 3) = true := by simpa using (fun h => hk (.inl h))
      have hk4 : (f.kind != 4) = true := by simpa using (fun h => hk (.inr h))
      go_wp2_with fail
      go_ret
      exact ⟨rfl, hB⟩
    · obtain ⟨x, y, hm⟩ := bin_kids HI.out hk
      clear q0 q1 q2 q3 q4 q5 q6 q7 q8 q9 q10 q11
      obtain ⟨kind, lit, kids⟩ := f
      simp only [Fm.kind, Fm.lit, Fm.kids] at hX hk hm hrf ⊢
      subst hm
      simp only [List.length_cons, List.length_nil, Nat.zero_add, Nat.reduceAdd] at hX hrf ⊢
      rcases hk with rfl | rfl
      · obtain ⟨g11, hkr, hgs⟩ := fm_row hrf
        simp only [Fm.kids, List.length_cons, List.length_nil, Nat.zero_add, Nat.reduceAdd] at hkr
        obtain ⟨kb, ko, rfl, hkb, _⟩ := rd_addr hkr (by simp)
        obtain ⟨xb3, xd3, _, xb5, xd5, _, xb6, xd6, _, xb7, xd7, _, xb11, xd11, _, xe0, xe1, xe2, xe3, xe4, xe5, xe6, xe7, xe8, xe9, xe10, xe11, xm0, xm1, xm2, xm3, xm4, xm5, xm6, xm7, xm8, xm9, xhs⟩ := Fm.at hkr (k := 0) (by simp)
        simp only [List.getElem_cons_zero, List.getElem_cons_succ, Nat.zero_mul, Nat.one_mul, Nat.add_zero, Nat.reduceMul] at xe0 xe1 xe2 xe3 xe4 xe5 xe6 xe7 xe8 xe9 xe10 xe11 xm0 xm1 xm2 xm3 xm4 xm5 xm6 xm7 xm8 xm9
        have hrx : RdVs w3 x.cd [.int .i64 x.kind, .int .i64 x.lit.atom.kind, .string x.lit.atom.a.name, .slice xb3 x.lit.atom.a.kids.length xd3, .string x.lit.atom.b.name, .slice xb5 x.lit.atom.b.kids.length xd5, .slice xb6 x.lit.atom.nums.length xd6, .slice xb7 x.lit.atom.times.length xd7, .int .i64 x.lit.atom.bound, .bool x.lit.atom.strict, .bool x.lit.no, .slice xb11 x.kids.length xd11] _ := Fm.close xm0 xm1 xm2 xm3 xm4 xm5 xm6 xm7 xm8 xm9
        have q0 := hX.2.1 0 _ rfl
        have q1 := hX.2.1 1 _ rfl
        have q2 := hX.2.1 2 _ rfl
        have q3 := hX.2.1 3 _ rfl
        have q4 := hX.2.1 4 _ rfl
        have q5 := hX.2.1 5 _ rfl
        have q6 := hX.2.1 6 _ rfl
        have q7 := hX.2.1 7 _ rfl
        have q8 := hX.2.1 8 _ rfl
        have q9 := hX.2.1 9 _ rfl
        have q10 := hX.2.1 10 _ rfl
        have q11 := hX.2.1 11 _ rfl
        go_upto_region 9 with fail
        obtain ⟨ka, hka⟩ : ∃ q, q = w3.heap.size := ⟨_, rfl⟩
        obtain ⟨xa, hxa⟩ : ∃ q, q = ka + 1 := ⟨_, rfl⟩
        have hra := kids1 hrx 43
        have hXa := Box.new (w3.alloc (.cells #[.int .i64 x.kind, .int .i64 x.lit.atom.kind, .string x.lit.atom.a.name, .slice xb3 x.lit.atom.a.kids.length xd3, .string x.lit.atom.b.name, .slice xb5 x.lit.atom.b.kids.length xd5, .slice xb6 x.lit.atom.nums.length xd6, .slice xb7 x.lit.atom.times.length xd7, .int .i64 x.lit.atom.bound, .bool x.lit.atom.strict, .bool x.lit.no, .slice xb11 x.kids.length xd11] 43)) [.int .i64 2, .int .i64 0, .string ⟨#[]⟩, .slice none 0 0, .string ⟨#[]⟩, .slice none 0 0, .slice none 0 0, .slice none 0 0, .int .i64 0, .bool false, .bool false, .slice (some ⟨w3.heap.size, 0, none⟩) 1 1] 43
        rw [World.size_alloc] at hXa
        rw [← hka, ← hxa] at hXa
        rw [← hka] at hra
        rw [← hka]
        try rw [← hxa]
        have hba : Below w3.heap.size w3 ((w3.alloc (.cells #[.int .i64 x.kind, .int .i64 x.lit.atom.kind, .string x.lit.atom.a.name, .slice xb3 x.lit.atom.a.kids.length xd3, .string x.lit.atom.b.name, .slice xb5 x.lit.atom.b.kids.length xd5, .slice xb6 x.lit.atom.nums.length xd6, .slice xb7 x.lit.atom.times.length xd7, .int .i64 x.lit.atom.bound, .bool x.lit.atom.strict, .bool x.lit.no, .slice xb11 x.kids.length xd11] 43)).alloc (.cells #[.int .i64 2, .int .i64 0, .string ⟨#[]⟩, .slice none 0 0, .string ⟨#[]⟩, .slice none 0 0, .slice none 0 0, .slice none 0 0, .int .i64 0, .bool false, .bool false, .slice (some ⟨ka, 0, none⟩) 1 1] 43)) := ((Below.refl _ _).alloc (Nat.le_refl _) _).alloc (by simp) _
        have hfa := (fm_mk (k := 2) (by unfold I64; simp) hra).below (below_alloc _ (.cells #[.int .i64 2, .int .i64 0, .string ⟨#[]⟩, .slice none 0 0, .string ⟨#[]⟩, .slice none 0 0, .slice none 0 0, .slice none 0 0, .int .i64 0, .bool false, .bool false, .slice (some ⟨ka, 0, none⟩) 1 1] 43))
        replace hX := hX.below hba
        replace hkr := hkr.below hba
        replace hbv := hbv.below hba
        replace hB := hB.trans (hba.mono hB.size)
        clear hba hka hxa hra xe0 xe1 xe2 xe3 xe4 xe5 xe6 xe7 xe8 xe9 xe10 xe11 q0 q1 q2 q3 q4 q5 q6 q7 q8 q9 q10 q11
        generalize (w3.alloc (.cells #[.int .i64 x.kind, .int .i64 x.lit.atom.kind, .string x.lit.atom.a.name, .slice xb3 x.lit.atom.a.kids.length xd3, .string x.lit.atom.b.name, .slice xb5 x.lit.atom.b.kids.length xd5, .slice xb6 x.lit.atom.nums.length xd6, .slice xb7 x.lit.atom.times.length xd7, .int .i64 x.lit.atom.bound, .bool x.lit.atom.strict, .bool x.lit.no, .slice xb11 x.kids.length xd11] 43)).alloc (.cells #[.int .i64 2, .int .i64 0, .string ⟨#[]⟩, .slice none 0 0, .string ⟨#[]⟩, .slice none 0 0, .slice none 0 0, .slice none 0 0, .int .i64 0, .bool false, .bool false, .slice (some ⟨ka, 0, none⟩) 1 1] 43) = w4 at *
        obtain ⟨yb3, yd3, _, yb5, yd5, _, yb6, yd6, _, yb7, yd7, _, yb11, yd11, _, ye0, ye1, ye2, ye3, ye4, ye5, ye6, ye7, ye8, ye9, ye10, ye11, ym0, ym1, ym2, ym3, ym4, ym5, ym6, ym7, ym8, ym9, yhs⟩ := Fm.at hkr (k := 1) (by simp)
        simp only [List.getElem_cons_zero, List.getElem_cons_succ, Nat.zero_mul, Nat.one_mul, Nat.add_zero, Nat.reduceMul] at ye0 ye1 ye2 ye3 ye4 ye5 ye6 ye7 ye8 ye9 ye10 ye11 ym0 ym1 ym2 ym3 ym4 ym5 ym6 ym7 ym8 ym9
        have hry : RdVs w4 y.cd [.int .i64 y.kind, .int .i64 y.lit.atom.kind, .string y.lit.atom.a.name, .slice yb3 y.lit.atom.a.kids.length yd3, .string y.lit.atom.b.name, .slice yb5 y.lit.atom.b.kids.length yd5, .slice yb6 y.lit.atom.nums.length yd6, .slice yb7 y.lit.atom.times.length yd7, .int .i64 y.lit.atom.bound, .bool y.lit.atom.strict, .bool y.lit.no, .slice yb11 y.kids.length yd11] _ := Fm.close ym0 ym1 ym2 ym3 ym4 ym5 ym6 ym7 ym8 ym9
        have q0 := hX.2.1 0 _ rfl
        have q1 := hX.2.1 1 _ rfl
        have q2 := hX.2.1 2 _ rfl
        have q3 := hX.2.1 3 _ rfl
        have q4 := hX.2.1 4 _ rfl
        have q5 := hX.2.1 5 _ rfl
        have q6 := hX.2.1 6 _ rfl
        have q7 := hX.2.1 7 _ rfl
        have q8 := hX.2.1 8 _ rfl
        have q9 := hX.2.1 9 _ rfl
        have q10 := hX.2.1 10 _ rfl
        have q11 := hX.2.1 11 _ rfl
        go_upto_region 10 with fail
        obtain ⟨kb, hkb⟩ : ∃ q, q = w4.heap.size := ⟨_, rfl⟩
        obtain ⟨xb, hxb⟩ : ∃ q, q = kb + 1 := ⟨_, rfl⟩
        have hrb := kids1 hry 43
        have hXb := Box.new (w4.alloc (.cells #[.int .i64 y.kind, .int .i64 y.lit.atom.kind, .string y.lit.atom.a.name, .slice yb3 y.lit.atom.a.kids.length yd3, .string y.lit.atom.b.name, .slice yb5 y.lit.atom.b.kids.length yd5, .slice yb6 y.lit.atom.nums.length yd6, .slice yb7 y.lit.atom.times.length yd7, .int .i64 y.lit.atom.bound, .bool y.lit.atom.strict, .bool y.lit.no, .slice yb11 y.kids.length yd11] 43)) [.int .i64 2, .int .i64 0, .string ⟨#[]⟩, .slice none 0 0, .string ⟨#[]⟩, .slice none 0 0, .slice none 0 0, .slice none 0 0, .int .i64 0, .bool false, .bool false, .slice (some ⟨w4.heap.size, 0, none⟩) 1 1] 43
        rw [World.size_alloc] at hXb
        rw [← hkb, ← hxb] at hXb
        rw [← hkb] at hrb
        rw [← hkb]
        try rw [← hxb]
        have hba : Below w4.heap.size w4 ((w4.alloc (.cells #[.int .i64 y.kind, .int .i64 y.lit.atom.kind, .string y.lit.atom.a.name, .slice yb3 y.lit.atom.a.kids.length yd3, .string y.lit.atom.b.name, .slice yb5 y.lit.atom.b.kids.length yd5, .slice yb6 y.lit.atom.nums.length yd6, .slice yb7 y.lit.atom.times.length yd7, .int .i64 y.lit.atom.bound, .bool y.lit.atom.strict, .bool y.lit.no, .slice yb11 y.kids.length yd11] 43)).alloc (.cells #[.int .i64 2, .int .i64 0, .string ⟨#[]⟩, .slice none 0 0, .string ⟨#[]⟩, .slice none 0 0, .slice none 0 0, .slice none 0 0, .int .i64 0, .bool false, .bool false, .slice (some ⟨kb, 0, none⟩) 1 1] 43)) := ((Below.refl _ _).alloc (Nat.le_refl _) _).alloc (by simp) _
        have hfb := (fm_mk (k := 2) (by unfold I64; simp) hrb).below (below_alloc _ (.cells #[.int .i64 2, .int .i64 0, .string ⟨#[]⟩, .slice none 0 0, .string ⟨#[]⟩, .slice none 0 0, .slice none 0 0, .slice none 0 0, .int .i64 0, .bool false, .bool false, .slice (some ⟨kb, 0, none⟩) 1 1] 43))
        replace hX := hX.below hba
        replace hXa := hXa.below hba
        replace hfa := hfa.below hba
        replace hbv := hbv.below hba
        replace hB := hB.trans (hba.mono hB.size)
        clear hba hkb hxb hrb ye0 ye1 ye2 ye3 ye4 ye5 ye6 ye7 ye8 ye9 ye10 ye11 q0 q1 q2 q3 q4 q5 q6 q7 q8 q9 q10 q11
        generalize (w4.alloc (.cells #[.int .i64 y.kind, .int .i64 y.lit.atom.kind, .string y.lit.atom.a.name, .slice yb3 y.lit.atom.a.kids.length yd3, .string y.lit.atom.b.name, .slice yb5 y.lit.atom.b.kids.length yd5, .slice yb6 y.lit.atom.nums.length yd6, .slice yb7 y.lit.atom.times.length yd7, .int .i64 y.lit.atom.bound, .bool y.lit.atom.strict, .bool y.lit.no, .slice yb11 y.kids.length yd11] 43)).alloc (.cells #[.int .i64 2, .int .i64 0, .string ⟨#[]⟩, .slice none 0 0, .string ⟨#[]⟩, .slice none 0 0, .slice none 0 0, .slice none 0 0, .int .i64 0, .bool false, .bool false, .slice (some ⟨kb, 0, none⟩) 1 1] 43) = w5 at *
        have q0 := hX.2.1 0 _ rfl
        have q1 := hX.2.1 1 _ rfl
        have q2 := hX.2.1 2 _ rfl
        have q3 := hX.2.1 3 _ rfl
        have q4 := hX.2.1 4 _ rfl
        have q5 := hX.2.1 5 _ rfl
        have q6 := hX.2.1 6 _ rfl
        have q7 := hX.2.1 7 _ rfl
        have q8 := hX.2.1 8 _ rfl
        have q9 := hX.2.1 9 _ rfl
        have q10 := hX.2.1 10 _ rfl
        have q11 := hX.2.1 11 _ rfl
        have qa0 := hXa.2.1 0 _ rfl
        have qa1 := hXa.2.1 1 _ rfl
        have qa2 := hXa.2.1 2 _ rfl
        have qa3 := hXa.2.1 3 _ rfl
        have qa4 := hXa.2.1 4 _ rfl
        have qa5 := hXa.2.1 5 _ rfl
        have qa6 := hXa.2.1 6 _ rfl
        have qa7 := hXa.2.1 7 _ rfl
        have qa8 := hXa.2.1 8 _ rfl
        have qa9 := hXa.2.1 9 _ rfl
        have qa10 := hXa.2.1 10 _ rfl
        have qa11 := hXa.2.1 11 _ rfl
        have qb0 := hXb.2.1 0 _ rfl
        have qb1 := hXb.2.1 1 _ rfl
        have qb2 := hXb.2.1 2 _ rfl
        have qb3 := hXb.2.1 3 _ rfl
        have qb4 := hXb.2.1 4 _ rfl
        have qb5 := hXb.2.1 5 _ rfl
        have qb6 := hXb.2.1 6 _ rfl
        have qb7 := hXb.2.1 7 _ rfl
        have qb8 := hXb.2.1 8 _ rfl
        have qb9 := hXb.2.1 9 _ rfl
        have qb10 := hXb.2.1 10 _ rfl
        have qb11 := hXb.2.1 11 _ rfl
        go_upto_region 11 with fail
        obtain ⟨kc, hkc⟩ : ∃ q, q = w5.heap.size := ⟨_, rfl⟩
        obtain ⟨xc, hxc⟩ : ∃ q, q = kc + 1 := ⟨_, rfl⟩
        have hrc : Rd (w5.alloc (.cells #[.int .i64 2, .int .i64 0, .string ⟨#[]⟩, .slice none 0 0, .string ⟨#[]⟩, .slice none 0 0, .slice none 0 0, .slice none 0 0, .int .i64 0, .bool false, .bool false, .slice (some ⟨ka, 0, none⟩) 1 1, .int .i64 2, .int .i64 0, .string ⟨#[]⟩, .slice none 0 0, .string ⟨#[]⟩, .slice none 0 0, .slice none 0 0, .slice none 0 0, .int .i64 0, .bool false, .bool false, .slice (some ⟨kb, 0, none⟩) 1 1] 43)) (.sl ([notF x, notF y].map Fm.cd)) (.slice (some ⟨w5.heap.size, 0, none⟩) 2 2) _ := kids2 hfa hfb 43
        have hXc := Box.new (w5.alloc (.cells #[.int .i64 2, .int .i64 0, .string ⟨#[]⟩, .slice none 0 0, .string ⟨#[]⟩, .slice none 0 0, .slice none 0 0, .slice none 0 0, .int .i64 0, .bool false, .bool false, .slice (some ⟨ka, 0, none⟩) 1 1, .int .i64 2, .int .i64 0, .string ⟨#[]⟩, .slice none 0 0, .string ⟨#[]⟩, .slice none 0 0, .slice none 0 0, .slice none 0 0, .int .i64 0, .bool false, .bool false, .slice (some ⟨kb, 0, none⟩) 1 1] 43)) [.int .i64 4, .int .i64 0, .string ⟨#[]⟩, .slice none 0 0, .string ⟨#[]⟩, .slice none 0 0, .slice none 0 0, .slice none 0 0, .int .i64 0, .bool false, .bool false, .slice (some ⟨w5.heap.size, 0, none⟩) 2 2] 43
        rw [World.size_alloc] at hXc
        rw [← hkc, ← hxc] at hXc
        rw [← hkc] at hrc
        rw [← hkc]
        try rw [← hxc]
        have hba : Below w5.heap.size w5 ((w5.alloc (.cells #[.int .i64 2, .int .i64 0, .string ⟨#[]⟩, .slice none 0 0, .string ⟨#[]⟩, .slice none 0 0, .slice none 0 0, .slice none 0 0, .int .i64 0, .bool false, .bool false, .slice (some ⟨ka, 0, none⟩) 1 1, .int .i64 2, .int .i64 0, .string ⟨#[]⟩, .slice none 0 0, .string ⟨#[]⟩, .slice none 0 0, .slice none 0 0, .slice none 0 0, .int .i64 0, .bool false, .bool false, .slice (some ⟨kb, 0, none⟩) 1 1] 43)).alloc (.cells #[.int .i64 4, .int .i64 0, .string ⟨#[]⟩, .slice none 0 0, .string ⟨#[]⟩, .slice none 0 0, .slice none 0 0, .slice none 0 0, .int .i64 0, .bool false, .bool false, .slice (some ⟨kc, 0, none⟩) 2 2] 43)) := ((Below.refl _ _).alloc (Nat.le_refl _) _).alloc (by simp) _
        have hfc := (fm_mk (k := 4) (by unfold I64; simp) hrc).below (below_alloc _ (.cells #[.int .i64 4, .int .i64 0, .string ⟨#[]⟩, .slice none 0 0, .string ⟨#[]⟩, .slice none 0 0, .slice none 0 0, .slice none 0 0, .int .i64 0, .bool false, .bool false, .slice (some ⟨kc, 0, none⟩) 2 2] 43))
        replace hbv := hbv.below hba
        replace hB := hB.trans (hba.mono hB.size)
        clear hba hkc hxc hrc q0 q1 q2 q3 q4 q5 q6 q7 q8 q9 q10 q11 qa0 qa1 qa2 qa3 qa4 qa5 qa6 qa7 qa8 qa9 qa10 qa11 qb0 qb1 qb2 qb3 qb4 qb5 qb6 qb7 qb8 qb9 qb10 qb11
        generalize (w5.alloc (.cells #[.int .i64 2, .int .i64 0, .string ⟨#[]⟩, .slice none 0 0, .string ⟨#[]⟩, .slice none 0 0, .slice none 0 0, .slice none 0 0, .int .i64 0, .bool false, .bool false, .slice (some ⟨ka, 0, none⟩) 1 1, .int .i64 2, .int .i64 0, .string ⟨#[]⟩, .slice none 0 0, .string ⟨#[]⟩, .slice none 0 0, .slice none 0 0, .slice none 0 0, .int .i64 0, .bool false, .bool false, .slice (some ⟨kb, 0, none⟩) 1 1] 43)).alloc (.cells #[.int .i64 4, .int .i64 0, .string ⟨#[]⟩, .slice none 0 0, .string ⟨#[]⟩, .slice none 0 0, .slice none 0 0, .slice none 0 0, .int .i64 0, .bool false, .bool false, .slice (some ⟨kc, 0, none⟩) 2 2] 43) = w6 at *
        have qc0 := hXc.2.1 0 _ rfl
        have qc1 := hXc.2.1 1 _ rfl
        have qc2 := hXc.2.1 2 _ rfl
        have qc3 := hXc.2.1 3 _ rfl
        have qc4 := hXc.2.1 4 _ rfl
        have qc5 := hXc.2.1 5 _ rfl
        have qc6 := hXc.2.1 6 _ rfl
        have qc7 := hXc.2.1 7 _ rfl
        have qc8 := hXc.2.1 8 _ rfl
        have qc9 := hXc.2.1 9 _ rfl
        have qc10 := hXc.2.1 10 _ rfl
        have qc11 := hXc.2.1 11 _ rfl
        obtain ⟨t, p, HT⟩ : ∃ a b, Hid (isF (binF 4 (notF x) (notF y)) bs = (a, b)) := ⟨_, _, Lib.hid rfl⟩
        have hw1 := bin_wt 4 (notF x) (notF y); have hw2 := not_wt x; have hw3 := not_wt y
        have hw4 := kid_wt (f := Fm.mk 3 lit [x, y]) (x := x) (by simp [Fm.kids]); have hw5 := kid_wt (f := Fm.mk 3 lit [x, y]) (x := y) (by simp [Fm.kids])
        go_wp2_with fail
        refine (formIs_any (binF 4 (notF x) (notF y)) bs _ _ _ _ _ (by omega) (by exact hfc) (by exact hbv) t p HT.out).mono ?_
        rintro e w7 ⟨rfl, hb7⟩
        replace hB := hB.trans (hb7.mono hB.size)
        clear hb7 hw1 hw2 hw3 hw4 hw5
        cases p
        · go_wp2_with fail
          go_ret
          exact ⟨rfl, hB⟩
        · obtain rfl := morgan_law (f := Fm.mk 3 lit [x, y]) (by simp [Fm.kind]) rfl HI.out HT.out
          have hns : ∀ x : Bool, ((!x) != x) = true := fun x => by cases x <;> rfl
          have hnso := hns so
          clear hns
          go_wp2_with fail
          go_ret
          exact ⟨rfl, hB⟩
      · obtain ⟨g11, hkr, hgs⟩ := fm_row hrf
        simp only [Fm.kids, List.length_cons, List.length_nil, Nat.zero_add, Nat.reduceAdd] at hkr
        obtain ⟨kb, ko, rfl, hkb, _⟩ := rd_addr hkr (by simp)
        obtain ⟨xb3, xd3, _, xb5, xd5, _, xb6, xd6, _, xb7, xd7, _, xb11, xd11, _, xe0, xe1, xe2, xe3, xe4, xe5, xe6, xe7, xe8, xe9, xe10, xe11, xm0, xm1, xm2, xm3, xm4, xm5, xm6, xm7, xm8, xm9, xhs⟩ := Fm.at hkr (k := 0) (by simp)
        simp only [List.getElem_cons_zero, List.getElem_cons_succ, Nat.zero_mul, Nat.one_mul, Nat.add_zero, Nat.reduceMul] at xe0 xe1 xe2 xe3 xe4 xe5 xe6 xe7 xe8 xe9 xe10 xe11 xm0 xm1 xm2 xm3 xm4 xm5 xm6 xm7 xm8 xm9
        have hrx : RdVs w3 x.cd [.int .i64 x.kind, .int .i64 x.lit.atom.kind, .string x.lit.atom.a.name, .slice xb3 x.lit.atom.a.kids.length xd3, .string x.lit.atom.b.name, .slice xb5 x.lit.atom.b.kids.length xd5, .slice xb6 x.lit.atom.nums.length xd6, .slice xb7 x.lit.atom.times.length xd7, .int .i64 x.lit.atom.bound, .bool x.lit.atom.strict, .bool x.lit.no, .slice xb11 x.kids.length xd11] _ := Fm.close xm0 xm1 xm2 xm3 xm4 xm5 xm6 xm7 xm8 xm9
        have q0 := hX.2.1 0 _ rfl
        have q1 := hX.2.1 1 _ rfl
        have q2 := hX.2.1 2 _ rfl
        have q3 := hX.2.1 3 _ rfl
        have q4 := hX.2.1 4 _ rfl
        have q5 := hX.2.1 5 _ rfl
        have q6 := hX.2.1 6 _ rfl
        have q7 := hX.2.1 7 _ rfl
        have q8 := hX.2.1 8 _ rfl
        have q9 := hX.2.1 9 _ rfl
        have q10 := hX.2.1 10 _ rfl
        have q11 := hX.2.1 11 _ rfl
        go_upto_region 9 with fail
        obtain ⟨ka, hka⟩ : ∃ q, q = w3.heap.size := ⟨_, rfl⟩
        obtain ⟨xa, hxa⟩ : ∃ q, q = ka + 1 := ⟨_, rfl⟩
        have hra := kids1 hrx 43
        have hXa := Box.new (w3.alloc (.cells #[.int .i64 x.kind, .int .i64 x.lit.atom.kind, .string x.lit.atom.a.name, .slice xb3 x.lit.atom.a.kids.length xd3, .string x.lit.atom.b.name, .slice xb5 x.lit.atom.b.kids.length xd5, .slice xb6 x.lit.atom.nums.length xd6, .slice xb7 x.lit.atom.times.length xd7, .int .i64 x.lit.atom.bound, .bool x.lit.atom.strict, .bool x.lit.no, .slice xb11 x.kids.length xd11] 43)) [.int .i64 2, .int .i64 0, .string ⟨#[]⟩, .slice none 0 0, .string ⟨#[]⟩, .slice none 0 0, .slice none 0 0, .slice none 0 0, .int .i64 0, .bool false, .bool false, .slice (some ⟨w3.heap.size, 0, none⟩) 1 1] 43
        rw [World.size_alloc] at hXa
        rw [← hka, ← hxa] at hXa
        rw [← hka] at hra
        rw [← hka]
        try rw [← hxa]
        have hba : Below w3.heap.size w3 ((w3.alloc (.cells #[.int .i64 x.kind, .int .i64 x.lit.atom.kind, .string x.lit.atom.a.name, .slice xb3 x.lit.atom.a.kids.length xd3, .string x.lit.atom.b.name, .slice xb5 x.lit.atom.b.kids.length xd5, .slice xb6 x.lit.atom.nums.length xd6, .slice xb7 x.lit.atom.times.length xd7, .int .i64 x.lit.atom.bound, .bool x.lit.atom.strict, .bool x.lit.no, .slice xb11 x.kids.length xd11] 43)).alloc (.cells #[.int .i64 2, .int .i64 0, .string ⟨#[]⟩, .slice none 0 0, .string ⟨#[]⟩, .slice none 0 0, .slice none 0 0, .slice none 0 0, .int .i64 0, .bool false, .bool false, .slice (some ⟨ka, 0, none⟩) 1 1] 43)) := ((Below.refl _ _).alloc (Nat.le_refl _) _).alloc (by simp) _
        have hfa := (fm_mk (k := 2) (by unfold I64; simp) hra).below (below_alloc _ (.cells #[.int .i64 2, .int .i64 0, .string ⟨#[]⟩, .slice none 0 0, .string ⟨#[]⟩, .slice none 0 0, .slice none 0 0, .slice none 0 0, .int .i64 0, .bool false, .bool false, .slice (some ⟨ka, 0, none⟩) 1 1] 43))
        replace hX := hX.below hba
        replace hkr := hkr.below hba
        replace hbv := hbv.below hba
        replace hB := hB.trans (hba.mono hB.size)
        clear hba hka hxa hra xe0 xe1 xe2 xe3 xe4 xe5 xe6 xe7 xe8 xe9 xe10 xe11 q0 q1 q2 q3 q4 q5 q6 q7 q8 q9 q10 q11
        generalize (w3.alloc (.cells #[.int .i64 x.kind, .int .i64 x.lit.atom.kind, .string x.lit.atom.a.name, .slice xb3 x.lit.atom.a.kids.length xd3, .string x.lit.atom.b.name, .slice xb5 x.lit.atom.b.kids.length xd5, .slice xb6 x.lit.atom.nums.length xd6, .slice xb7 x.lit.atom.times.length xd7, .int .i64 x.lit.atom.bound, .bool x.lit.atom.strict, .bool x.lit.no, .slice xb11 x.kids.length xd11] 43)).alloc (.cells #[.int .i64 2, .int .i64 0, .string ⟨#[]⟩, .slice none 0 0, .string ⟨#[]⟩, .slice none 0 0, .slice none 0 0, .slice none 0 0, .int .i64 0, .bool false, .bool false, .slice (some ⟨ka, 0, none⟩) 1 1] 43) = w4 at *
        obtain ⟨yb3, yd3, _, yb5, yd5, _, yb6, yd6, _, yb7, yd7, _, yb11, yd11, _, ye0, ye1, ye2, ye3, ye4, ye5, ye6, ye7, ye8, ye9, ye10, ye11, ym0, ym1, ym2, ym3, ym4, ym5, ym6, ym7, ym8, ym9, yhs⟩ := Fm.at hkr (k := 1) (by simp)
        simp only [List.getElem_cons_zero, List.getElem_cons_succ, Nat.zero_mul, Nat.one_mul, Nat.add_zero, Nat.reduceMul] at ye0 ye1 ye2 ye3 ye4 ye5 ye6 ye7 ye8 ye9 ye10 ye11 ym0 ym1 ym2 ym3 ym4 ym5 ym6 ym7 ym8 ym9
        have hry : RdVs w4 y.cd [.int .i64 y.kind, .int .i64 y.lit.atom.kind, .string y.lit.atom.a.name, .slice yb3 y.lit.atom.a.kids.length yd3, .string y.lit.atom.b.name, .slice yb5 y.lit.atom.b.kids.length yd5, .slice yb6 y.lit.atom.nums.length yd6, .slice yb7 y.lit.atom.times.length yd7, .int .i64 y.lit.atom.bound, .bool y.lit.atom.strict, .bool y.lit.no, .slice yb11 y.kids.length yd11] _ := Fm.close ym0 ym1 ym2 ym3 ym4 ym5 ym6 ym7 ym8 ym9
        have q0 := hX.2.1 0 _ rfl
        have q1 := hX.2.1 1 _ rfl
        have q2 := hX.2.1 2 _ rfl
        have q3 := hX.2.1 3 _ rfl
        have q4 := hX.2.1 4 _ rfl
        have q5 := hX.2.1 5 _ rfl
        have q6 := hX.2.1 6 _ rfl
        have q7 := hX.2.1 7 _ rfl
        have q8 := hX.2.1 8 _ rfl
        have q9 := hX.2.1 9 _ rfl
        have q10 := hX.2.1 10 _ rfl
        have q11 := hX.2.1 11 _ rfl
        go_upto_region 10 with fail
        obtain ⟨kb, hkb⟩ : ∃ q, q = w4.heap.size := ⟨_, rfl⟩
        obtain ⟨xb, hxb⟩ : ∃ q, q = kb + 1 := ⟨_, rfl⟩
        have hrb := kids1 hry 43
        have hXb := Box.new (w4.alloc (.cells #[.int .i64 y.kind, .int .i64 y.lit.atom.kind, .string y.lit.atom.a.name, .slice yb3 y.lit.atom.a.kids.length yd3, .string y.lit.atom.b.name, .slice yb5 y.lit.atom.b.kids.length yd5, .slice yb6 y.lit.atom.nums.length yd6, .slice yb7 y.lit.atom.times.length yd7, .int .i64 y.lit.atom.bound, .bool y.lit.atom.strict, .bool y.lit.no, .slice yb11 y.kids.length yd11] 43)) [.int .i64 2, .int .i64 0, .string ⟨#[]⟩, .slice none 0 0, .string ⟨#[]⟩, .slice none 0 0, .slice none 0 0, .slice none 0 0, .int .i64 0, .bool false, .bool false, .slice (some ⟨w4.heap.size, 0, none⟩) 1 1] 43
        rw [World.size_alloc] at hXb
        rw [← hkb, ← hxb] at hXb
        rw [← hkb] at hrb
        rw [← hkb]
        try rw [← hxb]
        have hba : Below w4.heap.size w4 ((w4.alloc (.cells #[.int .i64 y.kind, .int .i64 y.lit.atom.kind, .string y.lit.atom.a.name, .slice yb3 y.lit.atom.a.kids.length yd3, .string y.lit.atom.b.name, .slice yb5 y.lit.atom.b.kids.length yd5, .slice yb6 y.lit.atom.nums.length yd6, .slice yb7 y.lit.atom.times.length yd7, .int .i64 y.lit.atom.bound, .bool y.lit.atom.strict, .bool y.lit.no, .slice yb11 y.kids.length yd11] 43)).alloc (.cells #[.int .i64 2, .int .i64 0, .string ⟨#[]⟩, .slice none 0 0, .string ⟨#[]⟩, .slice none 0 0, .slice none 0 0, .slice none 0 0, .int .i64 0, .bool false, .bool false, .slice (some ⟨kb, 0, none⟩) 1 1] 43)) := ((Below.refl _ _).alloc (Nat.le_refl _) _).alloc (by simp) _
        have hfb := (fm_mk (k := 2) (by unfold I64; simp) hrb).below (below_alloc _ (.cells #[.int .i64 2, .int .i64 0, .string ⟨#[]⟩, .slice none 0 0, .string ⟨#[]⟩, .slice none 0 0, .slice none 0 0, .slice none 0 0, .int .i64 0, .bool false, .bool false, .slice (some ⟨kb, 0, none⟩) 1 1] 43))
        replace hX := hX.below hba
        replace hXa := hXa.below hba
        replace hfa := hfa.below hba
        replace hbv := hbv.below hba
        replace hB := hB.trans (hba.mono hB.size)
        clear hba hkb hxb hrb ye0 ye1 ye2 ye3 ye4 ye5 ye6 ye7 ye8 ye9 ye10 ye11 q0 q1 q2 q3 q4 q5 q6 q7 q8 q9 q10 q11
        generalize (w4.alloc (.cells #[.int .i64 y.kind, .int .i64 y.lit.atom.kind, .string y.lit.atom.a.name, .slice yb3 y.lit.atom.a.kids.length yd3, .string y.lit.atom.b.name, .slice yb5 y.lit.atom.b.kids.length yd5, .slice yb6 y.lit.atom.nums.length yd6, .slice yb7 y.lit.atom.times.length yd7, .int .i64 y.lit.atom.bound, .bool y.lit.atom.strict, .bool y.lit.no, .slice yb11 y.kids.length yd11] 43)).alloc (.cells #[.int .i64 2, .int .i64 0, .string ⟨#[]⟩, .slice none 0 0, .string ⟨#[]⟩, .slice none 0 0, .slice none 0 0, .slice none 0 0, .int .i64 0, .bool false, .bool false, .slice (some ⟨kb, 0, none⟩) 1 1] 43) = w5 at *
        have q0 := hX.2.1 0 _ rfl
        have q1 := hX.2.1 1 _ rfl
        have q2 := hX.2.1 2 _ rfl
        have q3 := hX.2.1 3 _ rfl
        have q4 := hX.2.1 4 _ rfl
        have q5 := hX.2.1 5 _ rfl
        have q6 := hX.2.1 6 _ rfl
        have q7 := hX.2.1 7 _ rfl
        have q8 := hX.2.1 8 _ rfl
        have q9 := hX.2.1 9 _ rfl
        have q10 := hX.2.1 10 _ rfl
        have q11 := hX.2.1 11 _ rfl
        have qa0 := hXa.2.1 0 _ rfl
        have qa1 := hXa.2.1 1 _ rfl
        have qa2 := hXa.2.1 2 _ rfl
        have qa3 := hXa.2.1 3 _ rfl
        have qa4 := hXa.2.1 4 _ rfl
        have qa5 := hXa.2.1 5 _ rfl
        have qa6 := hXa.2.1 6 _ rfl
        have qa7 := hXa.2.1 7 _ rfl
        have qa8 := hXa.2.1 8 _ rfl
        have qa9 := hXa.2.1 9 _ rfl
        have qa10 := hXa.2.1 10 _ rfl
        have qa11 := hXa.2.1 11 _ rfl
        have qb0 := hXb.2.1 0 _ rfl
        have qb1 := hXb.2.1 1 _ rfl
        have qb2 := hXb.2.1 2 _ rfl
        have qb3 := hXb.2.1 3 _ rfl
        have qb4 := hXb.2.1 4 _ rfl
        have qb5 := hXb.2.1 5 _ rfl
        have qb6 := hXb.2.1 6 _ rfl
        have qb7 := hXb.2.1 7 _ rfl
        have qb8 := hXb.2.1 8 _ rfl
        have qb9 := hXb.2.1 9 _ rfl
        have qb10 := hXb.2.1 10 _ rfl
        have qb11 := hXb.2.1 11 _ rfl
        go_upto_region 11 with fail
        obtain ⟨kc, hkc⟩ : ∃ q, q = w5.heap.size := ⟨_, rfl⟩
        obtain ⟨xc, hxc⟩ : ∃ q, q = kc + 1 := ⟨_, rfl⟩
        have hrc : Rd (w5.alloc (.cells #[.int .i64 2, .int .i64 0, .string ⟨#[]⟩, .slice none 0 0, .string ⟨#[]⟩, .slice none 0 0, .slice none 0 0, .slice none 0 0, .int .i64 0, .bool false, .bool false, .slice (some ⟨ka, 0, none⟩) 1 1, .int .i64 2, .int .i64 0, .string ⟨#[]⟩, .slice none 0 0, .string ⟨#[]⟩, .slice none 0 0, .slice none 0 0, .slice none 0 0, .int .i64 0, .bool false, .bool false, .slice (some ⟨kb, 0, none⟩) 1 1] 43)) (.sl ([notF x, notF y].map Fm.cd)) (.slice (some ⟨w5.heap.size, 0, none⟩) 2 2) _ := kids2 hfa hfb 43
        have hXc := Box.new (w5.alloc (.cells #[.int .i64 2, .int .i64 0, .string ⟨#[]⟩, .slice none 0 0, .string ⟨#[]⟩, .slice none 0 0, .slice none 0 0, .slice none 0 0, .int .i64 0, .bool false, .bool false, .slice (some ⟨ka, 0, none⟩) 1 1, .int .i64 2, .int .i64 0, .string ⟨#[]⟩, .slice none 0 0, .string ⟨#[]⟩, .slice none 0 0, .slice none 0 0, .slice none 0 0, .int .i64 0, .bool false, .bool false, .slice (some ⟨kb, 0, none⟩) 1 1] 43)) [.int .i64 3, .int .i64 0, .string ⟨#[]⟩, .slice none 0 0, .string ⟨#[]⟩, .slice none 0 0, .slice none 0 0, .slice none 0 0, .int .i64 0, .bool false, .bool false, .slice (some ⟨w5.heap.size, 0, none⟩) 2 2] 43
        rw [World.size_alloc] at hXc
        rw [← hkc, ← hxc] at hXc
        rw [← hkc] at hrc
        rw [← hkc]
        try rw [← hxc]
        have hba : Below w5.heap.size w5 ((w5.alloc (.cells #[.int .i64 2, .int .i64 0, .string ⟨#[]⟩, .slice none 0 0, .string ⟨#[]⟩, .slice none 0 0, .slice none 0 0, .slice none 0 0, .int .i64 0, .bool false, .bool false, .slice (some ⟨ka, 0, none⟩) 1 1, .int .i64 2, .int .i64 0, .string ⟨#[]⟩, .slice none 0 0, .string ⟨#[]⟩, .slice none 0 0, .slice none 0 0, .slice none 0 0, .int .i64 0, .bool false, .bool false, .slice (some ⟨kb, 0, none⟩) 1 1] 43)).alloc (.cells #[.int .i64 3, .int .i64 0, .string ⟨#[]⟩, .slice none 0 0, .string ⟨#[]⟩, .slice none 0 0, .slice none 0 0, .slice none 0 0, .int .i64 0, .bool false, .bool false, .slice (some ⟨kc, 0, none⟩) 2 2] 43)) := ((Below.refl _ _).alloc (Nat.le_refl _) _).alloc (by simp) _
        have hfc := (fm_mk (k := 3) (by unfold I64; simp) hrc).below (below_alloc _ (.cells #[.int .i64 3, .int .i64 0, .string ⟨#[]⟩, .slice none 0 0, .string ⟨#[]⟩, .slice none 0 0, .slice none 0 0, .slice none 0 0, .int .i64 0, .bool false, .bool false, .slice (some ⟨kc, 0, none⟩) 2 2] 43))
        replace hbv := hbv.below hba
        replace hB := hB.trans (hba.mono hB.size)
        clear hba hkc hxc hrc q0 q1 q2 q3 q4 q5 q6 q7 q8 q9 q10 q11 qa0 qa1 qa2 qa3 qa4 qa5 qa6 qa7 qa8 qa9 qa10 qa11 qb0 qb1 qb2 qb3 qb4 qb5 qb6 qb7 qb8 qb9 qb10 qb11
        generalize (w5.alloc (.cells #[.int .i64 2, .int .i64 0, .string ⟨#[]⟩, .slice none 0 0, .string ⟨#[]⟩, .slice none 0 0, .slice none 0 0, .slice none 0 0, .int .i64 0, .bool false, .bool false, .slice (some ⟨ka, 0, none⟩) 1 1, .int .i64 2, .int .i64 0, .string ⟨#[]⟩, .slice none 0 0, .string ⟨#[]⟩, .slice none 0 0, .slice none 0 0, .slice none 0 0, .int .i64 0, .bool false, .bool false, .slice (some ⟨kb, 0, none⟩) 1 1] 43)).alloc (.cells #[.int .i64 3, .int .i64 0, .string ⟨#[]⟩, .slice none 0 0, .string ⟨#[]⟩, .slice none 0 0, .slice none 0 0, .slice none 0 0, .int .i64 0, .bool false, .bool false, .slice (some ⟨kc, 0, none⟩) 2 2] 43) = w6 at *
        have qc0 := hXc.2.1 0 _ rfl
        have qc1 := hXc.2.1 1 _ rfl
        have qc2 := hXc.2.1 2 _ rfl
        have qc3 := hXc.2.1 3 _ rfl
        have qc4 := hXc.2.1 4 _ rfl
        have qc5 := hXc.2.1 5 _ rfl
        have qc6 := hXc.2.1 6 _ rfl
        have qc7 := hXc.2.1 7 _ rfl
        have qc8 := hXc.2.1 8 _ rfl
        have qc9 := hXc.2.1 9 _ rfl
        have qc10 := hXc.2.1 10 _ rfl
        have qc11 := hXc.2.1 11 _ rfl
        obtain ⟨t, p, HT⟩ : ∃ a b, Hid (isF (binF 3 (notF x) (notF y)) bs = (a, b)) := ⟨_, _, Lib.hid rfl⟩
        have hw1 := bin_wt 3 (notF x) (notF y); have hw2 := not_wt x; have hw3 := not_wt y
        have hw4 := kid_wt (f := Fm.mk 4 lit [x, y]) (x := x) (by simp [Fm.kids]); have hw5 := kid_wt (f := Fm.mk 4 lit [x, y]) (x := y) (by simp [Fm.kids])
        go_wp2_with fail
        refine (formIs_any (binF 3 (notF x) (notF y)) bs _ _ _ _ _ (by omega) (by exact hfc) (by exact hbv) t p HT.out).mono ?_
        rintro e w7 ⟨rfl, hb7⟩
        replace hB := hB.trans (hb7.mono hB.size)
        clear hb7 hw1 hw2 hw3 hw4 hw5
        cases p
        · go_wp2_with fail
          go_ret
          exact ⟨rfl, hB⟩
        · obtain rfl := morgan_law (f := Fm.mk 4 lit [x, y]) (by simp [Fm.kind]) rfl HI.out HT.out
          have hns : ∀ x : Bool, ((!x) != x) = true := fun x => by cases x <;> rfl
          have hnso := hns so
          clear hns
          go_wp2_with fail
          go_ret
          exact ⟨rfl, hB⟩
end Go.Proofs.Ytlhochahokbonaa
namespace Go.Proofs.Ytlhochahokbonaa.fnFormMorgan
open Go Go.ChangeShapes Go.WideShapes Go.ChangeAt Go.RowKit
set_option linter.unusedVariables false
theorem own : ownKnob Try.prog.godebug = none := by kernel_rfl
theorem laidOut : laidOutB Try.prog = true := by kernel_rfl
set_option maxRecDepth 100000 in
theorem lifted (os : Os) (started : os.Started) (H : Type) (enc : TypeId × Value → H) :
    ReturnsInHanded {} Try.checked os 5 .any (Rows.fnFormMorganSpec.pre6 enc Try.prog Try.f5 Rows.fnFormMorganRow.domain false) (Rows.fnFormMorganSpec.post enc Try.prog Try.f5 false true false false) := by
  refine returnsInHanded_of_change (C := Try.checked) own started (by kernel_rfl) Try.func5
    (ChangeSpec.witness6 (enc := enc) (C := Try.checked) false ⟨#[], #[.slice none 0 0], []⟩ 8 (by kernel_rfl) (by kernel_rfl) (by kernel_rfl) (by kernel_rfl)) ?_
  intro W base args ds gs before hval0 hW hcnd _
  have hval : ∀ (j : Nat) t v, Try.f5.params[j]? = some t → args[j]? = some v → Value.okWide Try.prog W .any base t v := hval0
  have hW' := hW
  obtain ⟨p, q, hA0, hV, rfl, hfz, hnd⟩ := hW
  have hA : DataW.TrodAll enc Try.prog W 0 (fun _ => true) true Try.f5.params.toList args.toList ds p := hA0
  rw [Try.params5] at hA hval
  obtain ⟨v0, vs0, d0, ds0, p0, q0, hargs, rfl, rfl, h0, r0⟩ := trodAll_cons hA
  obtain ⟨rfl, rfl, rfl⟩ := trodAll_nil r0
  obtain rfl : args = #[v0] := by cases args; simp_all
  obtain ⟨rfl, rfl⟩ := trodVars_none hV
  obtain ⟨a0, len0, cap0, rfl⟩ := okWide_slice Try.underlying22 (hval 0 22 v0 rfl rfl)
  have k0 := h0
  have lt0 : ∀ x ∈ p0, x.block < W.heap.size := by obtain ⟨m, hm⟩ := k0; exact DataW.trod_lt m _ _ _ hm
  have hr0 : Byts W (.slice a0 len0 cap0) := by
    obtain ⟨fuel, hf⟩ := h0
    obtain ⟨v, hv, hr⟩ := open_Byts fuel _ _ hf
    exact list1 hv ▸ hr
  clear hA0 hval0
  have hwalk := formMorganL_walk _ W hr0
  refine hwalk.mono fun e W' ⟨he, bel⟩ => ?_
  subst he
  exact ⟨_, rfl, _, _, _, [], _, [], hW', trodAll_mk1 (shut_bool Try.underlying4 _), (trodAll_cons_mk (Below.trod laidOut (by kernel_rfl) (of_decide_eq_true (by kernel_rfl)) k0 bel lt0) trodAll_mk0), rfl, bel.frame _, fun h => by cases h⟩
theorem named : Try.pinned.checked.prog.funcNamed Rows.fnFormMorganRow.func = some 5 := by kernel_rfl
theorem and2 {a b : Bool} (h : a = true) (h' : b = true) : (a && b) = true := by rw [h, h']; rfl
set_option maxHeartbeats 8000000 in
theorem closed : joinedFacts Try.pinned.checked.prog 5 Try.f5 Rows.fnFormMorganSpec Rows.fnFormMorganRow = true := by
  unfold joinedFacts
  repeat' (with_reducible refine and2 ?_ ?_)
  all_goals (as_aux_lemma => kernel_rfl)
theorem plain : Try.f5.isInstance Try.pinned.checked.prog Rows.fnFormMorganRow.origin Rows.fnFormMorganRow.targs := of_decide_eq_true (by kernel_rfl)
theorem bare : Try.f5.isWrapper Try.pinned.checked.prog Rows.fnFormMorganRow.wrapper Rows.fnFormMorganRow.mainSum := by unfold Func.isWrapper; first | (rw [if_pos (by decide +kernel)]; kernel_rfl) | (rw [if_neg (by decide +kernel)]; exact ⟨rfl, rfl⟩)
theorem over : Rows.fnFormMorganRow.holds Try.pinned (OpenSpec.ofChange Rows.fnFormMorganSpec) :=
  OpenClaim.holds_of_wide 5 Try.f5 rfl rfl rfl rfl rfl rfl rfl ⟨rfl, rfl, rfl, rfl, rfl⟩ rfl rfl rfl rfl rfl named Try.func5 closed plain bare
    (fun os started H enc _ => lifted os started H enc)
theorem proved : Rows.FnFormMorganSaid := over
end Go.Proofs.Ytlhochahokbonaa.fnFormMorgan
