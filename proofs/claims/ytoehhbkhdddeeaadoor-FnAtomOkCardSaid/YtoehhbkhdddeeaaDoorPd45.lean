/- Parts of the proof: RdrG. -/
import Derived.Test.YtoehhbkhdddeeaaDoorPd41
import Derived.Test.YtoehhbkhdddeeaaDoorPd42
import Derived.Test.YtoehhbkhdddeeaaDoorPd44
import Derived.Test.YtoehhbkhdddeeaaDoorPd8
section
namespace Go.Proofs.YtoehhbkhdddeeaaDoor
open Go Go.RowKit
set_option linter.unusedVariables false
set_option linter.unusedSimpArgs false
set_option maxRecDepth 100000
set_option maxHeartbeats 16000000
def DrawnSgAt (e : Ending) (w' : World) : Prop := ∃ (s : Sg) (y : Atm) (sa : Option Addr) (sc : Nat) (a2 : Option Addr) (c2 : Nat) (a4 : Option Addr) (c4 : Nat) (a5 : Option Addr) (c5 : Nat) (a6 : Option Addr) (c6 : Nat) (sf f : List Nat), y.tame ∧ s.syms.length ≤ 21 ∧ (∀ x ∈ s.syms, x.args.length ≤ 4) ∧
 e = .returned (.tuple #[.agg #[.slice sa s.syms.length sc], .agg #[.int .i64 y.kind, .string y.a.name, .slice a2 y.a.kids.length c2, .string y.b.name, .slice a4 y.b.kids.length c4, .slice a5 y.nums.length c5, .slice a6 y.times.length c6, .int .i64 y.bound, .bool y.strict]]) ∧ RdVs w' s.cd [.slice sa s.syms.length sc] sf ∧ RdVs w' y.cd [.int .i64 y.kind, .string y.a.name, .slice a2 y.a.kids.length c2, .string y.b.name, .slice a4 y.b.kids.length c4, .slice a5 y.nums.length c5, .slice a6 y.times.length c6, .int .i64 y.bound, .bool y.strict] f
theorem zaU (v : Value) (w : World) (hv : Byts w v) :
  Calls Tryd.prog 14 #[v] w fun e w' => DrawnSgAt e w' ∧ Below w.heap.size w w' := by
 have hB0 : Below w.heap.size w ((w.alloc (.cells #[.slice none 0 0] 40)).alloc (.cells #[.int .i64 0, .string ⟨#[]⟩, .slice none 0 0, .string ⟨#[]⟩, .slice none 0 0, .slice none 0 0, .slice none 0 0, .int .i64 0, .bool false] 28)) := ((Below.refl _ _).alloc (Nat.le_refl _) _).alloc (by simp) _
 have hA0 := (Box.new w [.slice none 0 0] 40).alloc (.cells #[.int .i64 0, .string ⟨#[]⟩, .slice none 0 0, .string ⟨#[]⟩, .slice none 0 0, .slice none 0 0, .slice none 0 0, .int .i64 0, .bool false] 28)
 have hB1 := Box.new (w.alloc (.cells #[.slice none 0 0] 40)) [.int .i64 0, .string ⟨#[]⟩, .slice none 0 0, .string ⟨#[]⟩, .slice none 0 0, .slice none 0 0, .slice none 0 0, .int .i64 0, .bool false] 28
 rw [World.size_alloc] at hB1
 have hs0 : ((w.alloc (.cells #[.slice none 0 0] 40)).alloc (.cells #[.int .i64 0, .string ⟨#[]⟩, .slice none 0 0, .string ⟨#[]⟩, .slice none 0 0, .slice none 0 0, .slice none 0 0, .int .i64 0, .bool false] 28)).heap.size = w.heap.size + 1 + 1 := by simp
 go_enter Tryd.func14, Tryd.ntmps14
 go_upto_region 1 with fail
 generalize (w.alloc (.cells #[.slice none 0 0] 40)).alloc (.cells #[.int .i64 0, .string ⟨#[]⟩, .slice none 0 0, .string ⟨#[]⟩, .slice none 0 0, .slice none 0 0, .slice none 0 0, .int .i64 0, .bool false] 28) = W0 at *
 go_wp2_with fail
 refine (zbD v _ (by exact hv.below hB0)).mono ?_
 rintro e u1 ⟨rfl, hu1, hb1⟩
 rw [hs0] at hu1 ⊢
 replace hA0 := hA0.below hb1
 replace hB1 := hB1.below hb1
 have hBW := hB0.trans (hb1.mono (by omega))
 have hzu := hb1.size
 rw [hs0] at hzu
 obtain ⟨rb, hrb⟩ : ∃ rb, rb = w.heap.size + 1 + 1 := ⟨_, rfl⟩
 rw [← hrb] at hu1 ⊢
 have hrw1 : rb ≤ w.heap.size + 1 + 1 := by omega
 have hrw2 : w.heap.size + 1 + 1 ≤ rb := by omega
 clear hrb hb1 hs0 hB0
 have hl1 := hu1.lt
 go_wp2_with fail
 refine (zb8 rb 0 _ (by omega) hu1).mono ?_
 rintro e u2 ⟨⟨s, vs, sf, ⟨hfew, hnice⟩, rfl, hrd, hsf⟩, hu2, ho2⟩
 obtain ⟨a0, c0, _, rfl, rfl, m0⟩ := Sg.open hrd
 have hnr : rb ∉ sf := fun h => by have := hsf _ h; omega
 replace hsf : ∀ b ∈ sf, w.heap.size + 1 < b := fun b hb => by have := hsf b hb; omega
 have hz2 := ho2.size
 replace hA0 := hA0.only ho2 (by omega)
 replace hB1 := hB1.only ho2 (by omega)
 replace hBW := hBW.trans (ho2.toBelow (B := w.heap.size) (by omega) (fun b hb => by simp at hb; omega))
 obtain ⟨S, hS⟩ : ∃ S, S = u2.heap.size := ⟨_, rfl⟩
 have hSz : w.heap.size + 1 + 1 + 1 ≤ S := by have := hu2.lt; have := hu1.lt; omega
 have hXS := Box.new u2 [.slice a0 s.syms.length c0] 40
 rw [← hS] at hXS
 have hfS : ∀ b ∈ sf, b < S := fun b hb => by rw [hS]; exact hrd.lt _ b hb
 go_upto_region 3 with fail
 rw [← hS]
 have hba := zb u2 (.cells #[.slice a0 s.syms.length c0] 40)
 replace hA0 := hA0.below hba
 replace hB1 := hB1.below hba
 replace hBW := hBW.alloc (by omega) (.cells #[.slice a0 s.syms.length c0] 40)
 replace hu2 := hu2.below hba
 replace hrd := hrd.below hba
 clear hba ho2 hz2 hS hu1 hl1 hzu m0
 generalize u2.alloc (.cells #[.slice a0 s.syms.length c0] 40) = U2 at *
 have xs := hXS.2.1 0 _ rfl
 go_wp2_with fail
 refine (zcb s _ sf rb (0 + 1) _ (by omega) hfew hnice (by exact hrd) hnr hu2).mono ?_
 rintro e u3 ⟨⟨y, vy, fy, ht, rfl, hry, hfy⟩, hu3, ho3⟩
 obtain ⟨a2, c2, _, a4, c4, _, a5, c5, _, a6, c6, _, rfl, _, m0, m1, m2, m3, m4, m5, m6, m7⟩ := Atm.open hry
 have hz3 := ho3.size
 have hzU := hXS.1
 replace hA0 := hA0.only ho3 (by omega)
 replace hB1 := hB1.only ho3 (by omega)
 replace hXS := hXS.only ho3 (by omega)
 replace hBW := hBW.trans (ho3.toBelow (B := w.heap.size) (by omega) (fun b hb => by simp at hb; omega))
 replace hrd := hrd.only ho3 hnr
 replace hfy : ∀ b ∈ fy, S < b := fun b hb => by have := hfy b hb; omega
 obtain ⟨V, hV⟩ : ∃ V, V = u3.heap.size := ⟨_, rfl⟩
 have hXV := Box.new u3 [.int .i64 y.kind, .string y.a.name, .slice a2 y.a.kids.length c2, .string y.b.name, .slice a4 y.b.kids.length c4, .slice a5 y.nums.length c5, .slice a6 y.times.length c6, .int .i64 y.bound, .bool y.strict] 28
 rw [← hV] at hXV
 have hfV : ∀ b ∈ fy, b < V := fun b hb => by rw [hV]; exact hry.lt _ b hb
 have hSV : S < V := by omega
 go_upto_region 4 with fail
 rw [← hV]
 have hba := zb u3 (.cells #[.int .i64 y.kind, .string y.a.name, .slice a2 y.a.kids.length c2, .string y.b.name, .slice a4 y.b.kids.length c4, .slice a5 y.nums.length c5, .slice a6 y.times.length c6, .int .i64 y.bound, .bool y.strict] 28)
 replace hA0 := hA0.below hba
 replace hB1 := hB1.below hba
 replace hXS := hXS.below hba
 replace hBW := hBW.alloc (by omega) (.cells #[.int .i64 y.kind, .string y.a.name, .slice a2 y.a.kids.length c2, .string y.b.name, .slice a4 y.b.kids.length c4, .slice a5 y.nums.length c5, .slice a6 y.times.length c6, .int .i64 y.bound, .bool y.strict] 28)
 replace hu3 := hu3.below hba
 replace hrd := hrd.below hba
 replace hry := hry.below hba
 clear hba ho3 hz3 hV hu2 m0 m1 m2 m3 m4 m5 m6 m7 xs hzU
 generalize u3.alloc (.cells #[.int .i64 y.kind, .string y.a.name, .slice a2 y.a.kids.length c2, .string y.b.name, .slice a4 y.b.kids.length c4, .slice a5 y.nums.length c5, .slice a6 y.times.length c6, .int .i64 y.bound, .bool y.strict] 28) = U3 at *
 go_wp2_with fail
 refine (zG rb (0 + 1 + 200) 12 _ (by omega) (by omega) (by omega) hu3).mono ?_
 rintro e u4 ⟨⟨m, hm, rfl⟩, hu4, ho4⟩
 have hnry : rb ∉ fy := fun h => by have := hfy _ h; have := hu3.lt; omega
 have hz4 := ho4.size
 have hzU := hXV.1
 replace hA0 := hA0.only ho4 (by omega)
 replace hB1 := hB1.only ho4 (by omega)
 replace hXS := hXS.only ho4 (by omega)
 replace hXV := hXV.only ho4 (by omega)
 replace hBW := hBW.trans (ho4.toBelow (B := w.heap.size) (by omega) (fun b hb => by simp at hb; omega))
 replace hrd := hrd.only ho4 hnr
 replace hry := hry.only ho4 hnry
 have hzu4 : V < u4.heap.size := by omega
 clear ho4 hu3 hz4 hm hzU
 by_cases hm0 : m = 0
 ·subst hm0
  have xs := hXS.2.1 0 _ rfl
  go_wp2_with fail
  refine (za6 5 2 s _ sf rb (0 + 1 + 200 + 1) _ (by omega) (by omega) (by omega) hfew.1 hfew.2 (by exact hrd) hnr hu4).mono ?_
  rintro e u5 ⟨⟨s5, v5, f5, hs5, ha5, rfl, hrd5, hf5⟩, hu5, ho5⟩
  obtain ⟨a5', c5', _, rfl, rfl, m5⟩ := Sg.open hrd5
  have hz5 := ho5.size
  go_wp2_with fail
  refine (za6 (5 + 8) (2 + 1) s5 _ f5 rb (0 + 1 + 200 + 1 + 20) _ (by omega) (by omega) (by omega) hs5 ha5 (by exact hrd5) (fun h => by have := hf5 _ h; omega) hu5).mono ?_
  rintro e X ⟨⟨s9, v6, f9, hs9, ha9, rfl, hrd9, hf9⟩, hu6, ho6⟩
  obtain ⟨a9, c9, _, rfl, rfl, m6⟩ := Sg.open hrd9
  have hN6 := ho5.trans ho6
  replace hA0 := hA0.only hN6 (by omega)
  replace hB1 := hB1.only hN6 (by omega)
  replace hXS := hXS.only hN6 (by omega)
  replace hXV := hXV.only hN6 (by omega)
  replace hBW := hBW.trans (hN6.toBelow (B := w.heap.size) (by omega) (fun b hb => by simp at hb; omega))
  replace hry := hry.only hN6 hnry
  replace hf9 : ∀ b ∈ f9, V < b := fun b hb => by have := hf9 b hb; omega
  clear ho5 ho6 hN6 hrd5 hu5 hu6 hu4 m5 m6 hrd
  have xs := hXS.2.1 0 _ rfl; have xf := hXS.2.2 0
  go_upto_region 6 with fail
  have hXS' := hXS.put (k := 0) (by simp) (.slice a9 s9.syms.length c9)
  have hA := hA0.sets_other (b := S) (.inl (by omega)) [(0, .slice a9 s9.syms.length c9)]
  have hB := hB1.sets_other (b := S) (.inl (by omega)) [(0, .slice a9 s9.syms.length c9)]
  have hXV' := hXV.sets_other (b := S) (.inr (by omega)) [(0, .slice a9 s9.syms.length c9)]
  replace hBW := zab (b := S) (by omega) [(0, .slice a9 s9.syms.length c9)] hBW
  have hK0 := (Same2.refl S S X).sets (b := S) (.inl rfl) [(0, .slice a9 s9.syms.length c9)]
  replace hrd9 := hrd9.same2 hK0 (fun b hb => by have := hf9 b hb; omega)
  have hry9 := hry.same2 hK0 (fun b hb => by have := hfy b hb; omega)
  simp only [zh] at hA hB hXV' hBW hrd9 hry9
  clear hA0 hB1 hXS hXV hK0 xs xf hry
  generalize X.setCell ⟨S, 0, none⟩ (.slice a9 s9.syms.length c9) = W at *
  replace hf9 : ∀ b ∈ f9, w.heap.size + 1 < b := fun b hb => by have := hf9 b hb; omega
  have hXS := hXS'; have hXV := hXV'
  clear hXS' hXV'
  refine Till.start (F := (fun U : World => Box [.slice a9 s9.syms.length c9] S U ∧ Box [.int .i64 y.kind, .string y.a.name, .slice a2 y.a.kids.length c2, .string y.b.name, .slice a4 y.b.kids.length c4, .slice a5 y.nums.length c5, .slice a6 y.times.length c6, .int .i64 y.bound, .bool y.strict] V U)) (s0 := 3) (by kernel_rfl) ?_
  have hF : (fun U : World => Box [.slice a9 s9.syms.length c9] S U ∧ Box [.int .i64 y.kind, .string y.a.name, .slice a2 y.a.kids.length c2, .string y.b.name, .slice a4 y.b.kids.length c4, .slice a5 y.nums.length c5, .slice a6 y.times.length c6, .int .i64 y.bound, .bool y.strict] V U) W.drew := ⟨hXS, hXV⟩
  have hA' : Box _ _ W.drew := hA
  have hB' : Box _ _ W.drew := hB
  have hWd : Below W.heap.size W W.drew := zf W
  have Tab' := two_ab [.slice a9 s9.syms.length c9] [.int .i64 y.kind, .string y.a.name, .slice a2 y.a.kids.length c2, .string y.b.name, .slice a4 y.b.kids.length c4, .slice a5 y.nums.length c5, .slice a6 y.times.length c6, .int .i64 y.bound, .bool y.strict] hA' hB' (by omega) rfl rfl (hBW.trans (hWd.mono (by have := hBW.size; omega))) (by omega)
  have hK0 : Same2 w.heap.size (w.heap.size + 1) W W.drew := fun b hb _ _ => hWd.block b hb
  have hKs := hWd.size
  clear hA hB hBW hXS hXV hWd
  generalize W.drew = W1 at *
  refine Till.take (i := 0) (v := (.agg #[.slice a9 s9.syms.length c9])) rfl (by kernel_rfl) (by kernel_rfl) (by kernel_rfl) (fun _ _ _ h => h) (by kernel_rfl) (Or.inl ⟨by rfl, fun U hU => ?_⟩) hF ?_
  ·have u0 := hU.1.2.1 0 _ rfl; clear hU; go_simp
  try simp only [Act.put, zcc, zcd, zce]
  refine Till.take (i := 1) (v := (.agg #[.int .i64 y.kind, .string y.a.name, .slice a2 y.a.kids.length c2, .string y.b.name, .slice a4 y.b.kids.length c4, .slice a5 y.nums.length c5, .slice a6 y.times.length c6, .int .i64 y.bound, .bool y.strict])) rfl (by kernel_rfl) (by kernel_rfl) (by kernel_rfl) (fun _ _ _ h => h) (by kernel_rfl) (Or.inl ⟨by rfl, fun U hU => ?_⟩) hF ?_
  ·have u0 := hU.2.2.1 0 _ rfl; have u1 := hU.2.2.1 1 _ rfl; have u2 := hU.2.2.1 2 _ rfl; have u3 := hU.2.2.1 3 _ rfl; have u4 := hU.2.2.1 4 _ rfl; have u5 := hU.2.2.1 5 _ rfl; have u6 := hU.2.2.1 6 _ rfl; have u7 := hU.2.2.1 7 _ rfl; have u8 := hU.2.2.1 8 _ rfl; clear hU; go_simp
  try simp only [Act.put, zcc, zcd, zce]
  refine Till.one (i := 2) (by kernel_rfl) rfl (fun K hK => ?_)
  have c0 := hA'.2.1 0 _ rfl; have f0 := hA'.2.2 0
  go_simp
  have hB2 := hB'.sets_other (b := w.heap.size) (by omega) [(0, .slice a9 s9.syms.length c9)]
  have hF2 : (fun U : World => Box [.slice a9 s9.syms.length c9] S U ∧ Box [.int .i64 y.kind, .string y.a.name, .slice a2 y.a.kids.length c2, .string y.b.name, .slice a4 y.b.kids.length c4, .slice a5 y.nums.length c5, .slice a6 y.times.length c6, .int .i64 y.bound, .bool y.strict] V U) _ := ⟨hF.1.sets_other (b := w.heap.size) (by omega) [(0, .slice a9 s9.syms.length c9)], hF.2.sets_other (b := w.heap.size) (by omega) [(0, .slice a9 s9.syms.length c9)]⟩
  simp only [zh] at hB2 hF2
  refine hK.out _ _ (fun _ => hF2) ?_
  clear hK hF hF2 hA' hB' c0 f0
  try simp only [Act.put, zcc, zcd, zce]
  refine Till.one (i := 3) (by kernel_rfl) rfl (fun K hK => ?_)
  have c0 := hB2.2.1 0 _ rfl; have f0 := hB2.2.2 0
  have c1 := hB2.2.1 1 _ rfl; have f1 := hB2.2.2 1
  have c2 := hB2.2.1 2 _ rfl; have f2 := hB2.2.2 2
  have c3 := hB2.2.1 3 _ rfl; have f3 := hB2.2.2 3
  have c4 := hB2.2.1 4 _ rfl; have f4 := hB2.2.2 4
  have c5 := hB2.2.1 5 _ rfl; have f5 := hB2.2.2 5
  have c6 := hB2.2.1 6 _ rfl; have f6 := hB2.2.2 6
  have c7 := hB2.2.1 7 _ rfl; have f7 := hB2.2.2 7
  have c8 := hB2.2.1 8 _ rfl; have f8 := hB2.2.2 8
  go_simp
  refine hK.out _ _ (fun h => absurd h (by decide)) ?_
  clear hK hB2 c0 f0 c1 f1 c2 f2 c3 f3 c4 f4 c5 f5 c6 f6 c7 f7 c8 f8
  try simp only [Act.put, zcc, zcd, zce]
  refine Till.done (by kernel_rfl) ?_ _
  simp only [zB, zh, Nat.zero_add, Nat.reduceAdd] at Tab'
  obtain ⟨g1, g2, hWA, hK1⟩ := Tab'
  have hK : Same2 w.heap.size (w.heap.size + 1) W _ := hK0.trans hK1 hKs
  have ra0 := g1.2.1 0 _ rfl
  have rb0 := g2.2.1 0 _ rfl
  have rb1 := g2.2.1 1 _ rfl
  have rb2 := g2.2.1 2 _ rfl
  have rb3 := g2.2.1 3 _ rfl
  have rb4 := g2.2.1 4 _ rfl
  have rb5 := g2.2.1 5 _ rfl
  have rb6 := g2.2.1 6 _ rfl
  have rb7 := g2.2.1 7 _ rfl
  have rb8 := g2.2.1 8 _ rfl
  go_wp2_with fail
  refine bodyPost_ret (v := .tuple #[.agg #[.slice a9 s9.syms.length c9], .agg #[.int .i64 y.kind, .string y.a.name, .slice a2 y.a.kids.length c2, .string y.b.name, .slice a4 y.b.kids.length c4, .slice a5 y.nums.length c5, .slice a6 y.times.length c6, .int .i64 y.bound, .bool y.strict]]) (by simp [results, Tryd.results14, go_sem, ra0, rb0, rb1, rb2, rb3, rb4, rb5, rb6, rb7, rb8]) rfl ?_
  exact ⟨⟨s9, y, a9, c9, a2, c2, a4, c4, a5, c5, a6, c6, f9, fy, ht, hs9, ha9, rfl, hrd9.same2 hK (fun b hb => by have := hf9 b hb; omega), hry9.same2 hK (fun b hb => by have := hfy b hb; omega)⟩, hWA⟩
 ·have e0 : ((m : Int) == 0) = false := by simpa using hm0
  obtain ⟨s9, rfl⟩ : ∃ s9, s9 = s := ⟨_, rfl⟩
  have hs9 : s9.syms.length ≤ 21 := by have := hfew.1; omega
  have ha9 : ∀ x ∈ s9.syms, x.args.length ≤ 4 := fun x hx => by have := hfew.2 x hx; omega
  go_upto_region 6 with fail
  have hA := hA0; have hB := hB1; have hXS' := hXS; have hXV' := hXV; have hrd9 := hrd; have hry9 := hry
  obtain ⟨a9, rfl⟩ : ∃ a9, a9 = a0 := ⟨_, rfl⟩
  obtain ⟨c9, rfl⟩ : ∃ c9, c9 = c0 := ⟨_, rfl⟩
  obtain ⟨f9, rfl⟩ : ∃ f9, f9 = sf := ⟨_, rfl⟩
  have hf9 : ∀ b ∈ f9, w.heap.size + 1 < b := fun b hb => by have := hsf b hb; omega
  clear hA0 hB1 hXS hXV hrd hry
  generalize u4 = W at *
  have hXS := hXS'; have hXV := hXV'
  clear hXS' hXV'
  refine Till.start (F := (fun U : World => Box [.slice a9 s9.syms.length c9] S U ∧ Box [.int .i64 y.kind, .string y.a.name, .slice a2 y.a.kids.length c2, .string y.b.name, .slice a4 y.b.kids.length c4, .slice a5 y.nums.length c5, .slice a6 y.times.length c6, .int .i64 y.bound, .bool y.strict] V U)) (s0 := 3) (by kernel_rfl) ?_
  have hF : (fun U : World => Box [.slice a9 s9.syms.length c9] S U ∧ Box [.int .i64 y.kind, .string y.a.name, .slice a2 y.a.kids.length c2, .string y.b.name, .slice a4 y.b.kids.length c4, .slice a5 y.nums.length c5, .slice a6 y.times.length c6, .int .i64 y.bound, .bool y.strict] V U) W.drew := ⟨hXS, hXV⟩
  have hA' : Box _ _ W.drew := hA
  have hB' : Box _ _ W.drew := hB
  have hWd : Below W.heap.size W W.drew := zf W
  have Tab' := two_ab [.slice a9 s9.syms.length c9] [.int .i64 y.kind, .string y.a.name, .slice a2 y.a.kids.length c2, .string y.b.name, .slice a4 y.b.kids.length c4, .slice a5 y.nums.length c5, .slice a6 y.times.length c6, .int .i64 y.bound, .bool y.strict] hA' hB' (by omega) rfl rfl (hBW.trans (hWd.mono (by have := hBW.size; omega))) (by omega)
  have hK0 : Same2 w.heap.size (w.heap.size + 1) W W.drew := fun b hb _ _ => hWd.block b hb
  have hKs := hWd.size
  clear hA hB hBW hXS hXV hWd
  generalize W.drew = W1 at *
  refine Till.take (i := 0) (v := (.agg #[.slice a9 s9.syms.length c9])) rfl (by kernel_rfl) (by kernel_rfl) (by kernel_rfl) (fun _ _ _ h => h) (by kernel_rfl) (Or.inl ⟨by rfl, fun U hU => ?_⟩) hF ?_
  ·have u0 := hU.1.2.1 0 _ rfl; clear hU; go_simp
  try simp only [Act.put, zcc, zcd, zce]
  refine Till.take (i := 1) (v := (.agg #[.int .i64 y.kind, .string y.a.name, .slice a2 y.a.kids.length c2, .string y.b.name, .slice a4 y.b.kids.length c4, .slice a5 y.nums.length c5, .slice a6 y.times.length c6, .int .i64 y.bound, .bool y.strict])) rfl (by kernel_rfl) (by kernel_rfl) (by kernel_rfl) (fun _ _ _ h => h) (by kernel_rfl) (Or.inl ⟨by rfl, fun U hU => ?_⟩) hF ?_
  ·have u0 := hU.2.2.1 0 _ rfl; have u1 := hU.2.2.1 1 _ rfl; have u2 := hU.2.2.1 2 _ rfl; have u3 := hU.2.2.1 3 _ rfl; have u4 := hU.2.2.1 4 _ rfl; have u5 := hU.2.2.1 5 _ rfl; have u6 := hU.2.2.1 6 _ rfl; have u7 := hU.2.2.1 7 _ rfl; have u8 := hU.2.2.1 8 _ rfl; clear hU; go_simp
  try simp only [Act.put, zcc, zcd, zce]
  refine Till.one (i := 2) (by kernel_rfl) rfl (fun K hK => ?_)
  have c0 := hA'.2.1 0 _ rfl; have f0 := hA'.2.2 0
  go_simp
  have hB2 := hB'.sets_other (b := w.heap.size) (by omega) [(0, .slice a9 s9.syms.length c9)]
  have hF2 : (fun U : World => Box [.slice a9 s9.syms.length c9] S U ∧ Box [.int .i64 y.kind, .string y.a.name, .slice a2 y.a.kids.length c2, .string y.b.name, .slice a4 y.b.kids.length c4, .slice a5 y.nums.length c5, .slice a6 y.times.length c6, .int .i64 y.bound, .bool y.strict] V U) _ := ⟨hF.1.sets_other (b := w.heap.size) (by omega) [(0, .slice a9 s9.syms.length c9)], hF.2.sets_other (b := w.heap.size) (by omega) [(0, .slice a9 s9.syms.length c9)]⟩
  simp only [zh] at hB2 hF2
  refine hK.out _ _ (fun _ => hF2) ?_
  clear hK hF hF2 hA' hB' c0 f0
  try simp only [Act.put, zcc, zcd, zce]
  refine Till.one (i := 3) (by kernel_rfl) rfl (fun K hK => ?_)
  have c0 := hB2.2.1 0 _ rfl; have f0 := hB2.2.2 0
  have c1 := hB2.2.1 1 _ rfl; have f1 := hB2.2.2 1
  have c2 := hB2.2.1 2 _ rfl; have f2 := hB2.2.2 2
  have c3 := hB2.2.1 3 _ rfl; have f3 := hB2.2.2 3
  have c4 := hB2.2.1 4 _ rfl; have f4 := hB2.2.2 4
  have c5 := hB2.2.1 5 _ rfl; have f5 := hB2.2.2 5
  have c6 := hB2.2.1 6 _ rfl; have f6 := hB2.2.2 6
  have c7 := hB2.2.1 7 _ rfl; have f7 := hB2.2.2 7
  have c8 := hB2.2.1 8 _ rfl; have f8 := hB2.2.2 8
  go_simp
  refine hK.out _ _ (fun h => absurd h (by decide)) ?_
  clear hK hB2 c0 f0 c1 f1 c2 f2 c3 f3 c4 f4 c5 f5 c6 f6 c7 f7 c8 f8
  try simp only [Act.put, zcc, zcd, zce]
  refine Till.done (by kernel_rfl) ?_ _
  simp only [zB, zh, Nat.zero_add, Nat.reduceAdd] at Tab'
  obtain ⟨g1, g2, hWA, hK1⟩ := Tab'
  have hK : Same2 w.heap.size (w.heap.size + 1) W _ := hK0.trans hK1 hKs
  have ra0 := g1.2.1 0 _ rfl
  have rb0 := g2.2.1 0 _ rfl
  have rb1 := g2.2.1 1 _ rfl
  have rb2 := g2.2.1 2 _ rfl
  have rb3 := g2.2.1 3 _ rfl
  have rb4 := g2.2.1 4 _ rfl
  have rb5 := g2.2.1 5 _ rfl
  have rb6 := g2.2.1 6 _ rfl
  have rb7 := g2.2.1 7 _ rfl
  have rb8 := g2.2.1 8 _ rfl
  go_wp2_with fail
  refine bodyPost_ret (v := .tuple #[.agg #[.slice a9 s9.syms.length c9], .agg #[.int .i64 y.kind, .string y.a.name, .slice a2 y.a.kids.length c2, .string y.b.name, .slice a4 y.b.kids.length c4, .slice a5 y.nums.length c5, .slice a6 y.times.length c6, .int .i64 y.bound, .bool y.strict]]) (by simp [results, Tryd.results14, go_sem, ra0, rb0, rb1, rb2, rb3, rb4, rb5, rb6, rb7, rb8]) rfl ?_
  exact ⟨⟨s9, y, a9, c9, a2, c2, a4, c4, a5, c5, a6, c6, f9, fy, ht, hs9, ha9, rfl, hrd9.same2 hK (fun b hb => by have := hf9 b hb; omega), hry9.same2 hK (fun b hb => by have := hfy b hb; omega)⟩, hWA⟩
end Go.Proofs.YtoehhbkhdddeeaaDoor
end
