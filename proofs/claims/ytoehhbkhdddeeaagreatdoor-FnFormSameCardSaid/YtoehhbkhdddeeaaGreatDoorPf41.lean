/- Parts of the proof: RdrJ. -/
import Derived.Test.YtoehhbkhdddeeaaGreatDoorPf38
import Derived.Test.YtoehhbkhdddeeaaGreatDoorPf40
section
namespace Go.Proofs.YtoehhbkhdddeeaaGreatDoor
open Go Go.RowKit
set_option linter.unusedVariables false
set_option linter.unusedSimpArgs false
set_option maxRecDepth 100000
set_option maxHeartbeats 16000000
theorem zax {W : World} {A B : Nat} {oa ob : List Value} (va vb : List Value) (hA : Box oa A W) (hB : Box ob B W) (hne : A < B) (la : oa.length = va.length) (lb : ob.length = vb.length) :
  Box va A (zi B (zc 0 vb) (zi A (zc 0 va) W)) ∧ Box vb B (zi B (zc 0 vb) (zi A (zc 0 va) W)) ∧ Same2 A B W (zi B (zc 0 vb) (zi A (zc 0 va) W)) :=
 ⟨(hA.puts va la).sets_other (.inl hne) _, (hB.sets_other (.inr hne) _).puts vb lb, ((Same2.refl A B W).sets (.inl rfl) _).sets (.inr rfl) _⟩
/-- Words and a form that are drawn. -/
def DrawnSF (w : World) (e : Ending) (w' : World) : Prop := ∃ (s : Sg) (f : Fm) (a0 : Option Addr) (c0 : Nat) (b3 : Option Addr) (d3 : Nat) (b5 : Option Addr) (d5 : Nat) (b6 : Option Addr) (d6 : Nat) (b7 : Option Addr) (d7 : Nat) (b11 : Option Addr) (d11 : Nat) (sf ff : List Nat), (s.few ∧ s.nice) ∧ wtV f.cd ≤ fcap 4 ∧
 e = .returned (.tuple #[.agg #[.slice a0 s.syms.length c0], .agg #[.int .i64 f.kind, .int .i64 f.lit.atom.kind, .string f.lit.atom.a.name, .slice b3 f.lit.atom.a.kids.length d3, .string f.lit.atom.b.name, .slice b5 f.lit.atom.b.kids.length d5, .slice b6 f.lit.atom.nums.length d6, .slice b7 f.lit.atom.times.length d7, .int .i64 f.lit.atom.bound, .bool f.lit.atom.strict, .bool f.lit.no, .slice b11 f.kids.length d11]]) ∧ RdVs w' s.cd [.slice a0 s.syms.length c0] sf ∧ RdVs w' f.cd [.int .i64 f.kind, .int .i64 f.lit.atom.kind, .string f.lit.atom.a.name, .slice b3 f.lit.atom.a.kids.length d3, .string f.lit.atom.b.name, .slice b5 f.lit.atom.b.kids.length d5, .slice b6 f.lit.atom.nums.length d6, .slice b7 f.lit.atom.times.length d7, .int .i64 f.lit.atom.bound, .bool f.lit.atom.strict, .bool f.lit.no, .slice b11 f.kids.length d11] ff ∧ (∀ b ∈ sf, w.heap.size ≤ b) ∧ ∀ b ∈ ff, w.heap.size ≤ b
theorem zdI (rb p : Nat) (w : World) (hp : p + 700 ≤ 1000000000) (hr : Rdr w rb p) :
  Calls Tryz.prog 17 #[.pointer (some ⟨rb, 0, none⟩)] w fun e w' => DrawnSF w e w' ∧ Rdr w' rb (p + 700) ∧ Only [rb] w w' := by
 have hlt := hr.lt
 have hA0 := (Box.new w [.slice none 0 0] 43).alloc (.cells #[.int .i64 0, .int .i64 0, .string ⟨#[]⟩, .slice none 0 0, .string ⟨#[]⟩, .slice none 0 0, .slice none 0 0, .slice none 0 0, .int .i64 0, .bool false, .bool false, .slice none 0 0] 33)
 have hB0 := Box.new (w.alloc (.cells #[.slice none 0 0] 43)) [.int .i64 0, .int .i64 0, .string ⟨#[]⟩, .slice none 0 0, .string ⟨#[]⟩, .slice none 0 0, .slice none 0 0, .slice none 0 0, .int .i64 0, .bool false, .bool false, .slice none 0 0] 33
 rw [World.size_alloc] at hB0
 have hbn : Below w.heap.size w ((w.alloc (.cells #[.slice none 0 0] 43)).alloc (.cells #[.int .i64 0, .int .i64 0, .string ⟨#[]⟩, .slice none 0 0, .string ⟨#[]⟩, .slice none 0 0, .slice none 0 0, .slice none 0 0, .int .i64 0, .bool false, .bool false, .slice none 0 0] 33)) := ((Below.refl _ _).alloc (Nat.le_refl _) _).alloc (by simp) _
 go_enter Tryz.func17, Tryz.ntmps17
 go_upto_region 1 with fail
 generalize (w.alloc (.cells #[.slice none 0 0] 43)).alloc (.cells #[.int .i64 0, .int .i64 0, .string ⟨#[]⟩, .slice none 0 0, .string ⟨#[]⟩, .slice none 0 0, .slice none 0 0, .slice none 0 0, .int .i64 0, .bool false, .bool false, .slice none 0 0] 33) = W0 at *
 have hN0 : Only [rb] w W0 := Only.below hbn
 have hr0 := hr.below hbn
 clear hbn hr
 go_wp2_with fail
 refine (zdt rb p _ (by omega) hr0).mono ?_
 rintro e w1 ⟨⟨s, vs, sf, ⟨hfew, hnice⟩, rfl, hrd, hsf⟩, hr1, ho1⟩
 obtain ⟨a0, c0, _, rfl, rfl, m0⟩ := Sg.open hrd
 have hzB := hB0.1
 have hnr : rb ∉ sf := fun h => by have := hsf _ h; omega
 replace hsf : ∀ b ∈ sf, w.heap.size + 1 < b := fun b hb => by have := hsf b hb; omega
 have hz1 := ho1.size
 replace hA0 := hA0.only ho1 (by omega)
 replace hB0 := hB0.only ho1 (by omega)
 replace hN0 := hN0.trans ho1
 clear hr0 ho1 m0
 obtain ⟨S, hS⟩ : ∃ S, S = w1.heap.size := ⟨_, rfl⟩
 have hSz : w.heap.size + 1 < S := by omega
 have hXS := Box.new w1 [.slice a0 s.syms.length c0] 43
 rw [← hS] at hXS
 go_upto_region 2 with fail
 rw [← hS]
 have hba := za w1 (.cells #[.slice a0 s.syms.length c0] 43)
 replace hA0 := hA0.below hba
 replace hB0 := hB0.below hba
 replace hN0 := hN0.trans (Only.below hba)
 replace hr1 := hr1.below hba
 replace hrd := hrd.below hba
 clear hba hS hzB hz1
 generalize w1.alloc (.cells #[.slice a0 s.syms.length c0] 43) = w2 at *
 refine Till.start (F := (fun U : World => Box [.slice a0 s.syms.length c0] S U)) (s0 := 10) (by kernel_rfl) ?_
 have hbd := zd w2
 have hF : (fun U : World => Box [.slice a0 s.syms.length c0] S U) w2.drew := hXS.below hbd
 have hA := hA0.below hbd
 have hB := hB0.below hbd
 have hN := hN0.trans (Only.below hbd)
 have hRd := hr1.below hbd
 have hrs := hrd.below hbd
 clear hXS hA0 hB0 hN0 hr1 hrd hbd
 generalize w2.drew = v0 at *
 have hSv := hF.1
 refine Till.take (i := 0) (v := (.agg #[.slice a0 s.syms.length c0])) rfl (by kernel_rfl) (by kernel_rfl) (by kernel_rfl) (fun _ _ _ h => h) (by kernel_rfl) (Or.inl ⟨by rfl, fun U hU => ?_⟩) hF ?_
 ·have u0 := hU.2.1 0 _ rfl; clear hU; go_simp
 try simp only [Act.put, zdK, zdL, zdM]
 refine Till.take (i := 1) (v := (.pointer (some ⟨rb, 0, none⟩))) rfl (by kernel_rfl) (by kernel_rfl) (by kernel_rfl) (fun _ _ _ h => h) (by kernel_rfl) (Or.inl ⟨by rfl, fun U hU => ?_⟩) hF ?_
 ·clear hU; go_simp
 try simp only [Act.put, zdK, zdL, zdM]
 refine Till.take (i := 2) (v := (.pointer (some ⟨rb, 0, none⟩))) rfl (by kernel_rfl) (by kernel_rfl) (by kernel_rfl) (fun _ _ _ h => h) (by kernel_rfl) (Or.inl ⟨by rfl, fun U hU => ?_⟩) hF ?_
 ·clear hU; go_simp
 try simp only [Act.put, zdK, zdL, zdM]
 refine Till.take (i := 3) (v := (.agg #[.slice a0 s.syms.length c0])) rfl (by kernel_rfl) (by kernel_rfl) (by kernel_rfl) (fun _ _ _ h => h) (by kernel_rfl) (Or.inl ⟨by rfl, fun U hU => ?_⟩) hF ?_
 ·have u0 := hU.2.1 0 _ rfl; clear hU; go_simp
 try simp only [Act.put, zdK, zdL, zdM]
 refine Till.take (i := 5) (v := (.pointer (some ⟨rb, 0, none⟩))) rfl (by kernel_rfl) (by kernel_rfl) (by kernel_rfl) (fun _ _ _ h => h) (by kernel_rfl) (Or.inl ⟨by rfl, fun U hU => ?_⟩) hF ?_
 ·clear hU; go_simp
 try simp only [Act.put, zdK, zdL, zdM]
 refine Till.two (i := 4) (j := 6) (by kernel_rfl) rfl rfl (fun K hK => ?_) (fun K hK => ?_)
 ·skip
  go_simp; go_at_call 30
  refine (zbQ s _ sf rb (p + 1) _ (by omega) hfew hnice (by exact hrs) hnr (by exact hRd)).mono ?_
  rintro e v1 ⟨⟨l, lv, lf, ⟨hl1, hl6, hlx⟩, rfl, hrl, hlg⟩, hRn, ho⟩
  have hzz := hN.size
  have hFs := hF.1
  replace hlg : ∀ b ∈ lf, w.heap.size + 1 < b := fun b hb => by have := hlg b hb; omega
  clear hRd hzz
  replace hF : (fun U : World => Box [.slice a0 s.syms.length c0] S U) v1 := hF.only ho (by omega)
  replace hA := hA.only ho (by omega)
  replace hB := hB.only ho (by omega)
  replace hN := hN.trans ho
  replace hrs := hrs.only ho hnr
  have hRd := hRn
  clear hRn
  have hnl : rb ∉ lf := fun h => by have := hlg _ h; omega
  have HLX := Lib.hid hlx
  clear ho hlx
  refine hK.out _ _ (fun _ => hF) ?_
  clear hK
  try simp only [Act.put, zdK, zdL, zdM]
  refine Till.one (i := 6) (by kernel_rfl) rfl (fun K hK => ?_)
  go_simp
  have hl : Lst rb [.int .i64 3, .int .i64 4, .int .i64 2, .int .i64 3, .int .i64 1] v1.heap.size (v1.alloc (.cells #[.int .i64 3, .int .i64 4, .int .i64 2, .int .i64 3, .int .i64 1] 3)) := Lst.new hRd.lt _ _
  have hbn := za v1 (.cells #[.int .i64 3, .int .i64 4, .int .i64 2, .int .i64 3, .int .i64 1] 3)
  replace hF : (fun U : World => Box [.slice a0 s.syms.length c0] S U) _ := hF.below hbn
  replace hA := hA.below hbn
  replace hB := hB.below hbn
  replace hN := hN.trans (Only.below hbn)
  replace hrs := hrs.below hbn
  replace hRd := hRd.below hbn
  replace hrl := hrl.below hbn
  clear hbn
  generalize v1.alloc (.cells #[.int .i64 3, .int .i64 4, .int .i64 2, .int .i64 3, .int .i64 1] 3) = v2 at *
  refine hK.out _ _ (fun _ => hF) ?_
  clear hK
  try simp only [Act.put, zdK, zdL, zdM]
  refine Till.one (i := 7) (by kernel_rfl) rfl (fun K hK => ?_)
  go_simp; go_at_call 11
  refine (zar 5 [3, 4, 2, 3, 1] [.int .i64 3, .int .i64 4, .int .i64 2, .int .i64 3, .int .i64 1] rfl rfl rb (p + 1 + 600) _ _ (by omega) (by simp) (by simp) (by exact hl) (by exact hRd)).mono ?_
  rintro e v3 ⟨⟨dv, hdv, rfl⟩, hRn, ho⟩
  have hd1 : 1 ≤ dv ∧ dv ≤ 4 := by simp at hdv; omega
  clear hRd hdv
  replace hF : (fun U : World => Box [.slice a0 s.syms.length c0] S U) v3 := hF.only ho (by omega)
  replace hA := hA.only ho (by omega)
  replace hB := hB.only ho (by omega)
  replace hN := hN.trans ho
  replace hrs := hrs.only ho hnr
  have hRd := hRn
  clear hRn
  replace hrl := hrl.only ho hnl
  clear ho hl
  refine hK.out _ _ (fun _ => hF) ?_
  clear hK
  try simp only [Act.put, zdK, zdL, zdM]
  refine Till.one (i := 8) (by kernel_rfl) rfl (fun K hK => ?_)
  go_simp; go_at_call 29
  refine (l9Any_n 4 l _ lf dv rb (p + 1 + 600 + 1) _ hd1.1 (by omega) (by omega) (by simp only [gcap]; omega) hl1 hl6 HLX (by exact hrl) hnl (by exact hRd)).mono ?_
  rintro e v4 ⟨⟨f, vf, ff, hwf, rfl, hrf, hff⟩, hRn, ho⟩
  obtain ⟨b3, d3, _, b5, d5, _, b6, d6, _, b7, d7, _, b11, d11, _, rfl, _, m0, m1, m2, m3, m4, m5, m6, m7, m8, m9⟩ := Fm.open hrf
  clear m0 m1 m2 m3 m4 m5 m6 m7 m8 m9
  have hzz := hF.1
  have hlf2 : ∀ b ∈ ff, w.heap.size + 1 < b := fun b hb => by
   rcases hff b hb with h | h
   ·exact hlg b h
   ·omega
  clear hRd
  replace hF : (fun U : World => Box [.slice a0 s.syms.length c0] S U) v4 := hF.only ho (by omega)
  replace hA := hA.only ho (by omega)
  replace hB := hB.only ho (by omega)
  replace hN := hN.trans ho
  replace hrs := hrs.only ho hnr
  have hRd := hRn
  clear hRn
  clear ho hrl
  refine hK.out _ _ (fun _ => hF) ?_
  clear hK
  try simp only [Act.put, zdK, zdL, zdM]
  refine Till.one (i := 9) (by kernel_rfl) rfl (fun K hK => ?_)
  have ca := hA.2.1 0 _ rfl; have cf := hA.2.2 0
  go_simp
  have hB2 := hB.sets_other (b := w.heap.size) (by omega) [(0, .slice a0 s.syms.length c0)]
  have hF2 : (fun U : World => Box [.slice a0 s.syms.length c0] S U) _ := hF.sets_other (b := w.heap.size) (by omega) [(0, .slice a0 s.syms.length c0)]
  simp only [zi] at hB2 hF2
  clear hF ca cf
  have hF := hF2
  clear hF2
  refine hK.out _ _ (fun _ => hF) ?_
  clear hK
  try simp only [Act.put, zdK, zdL, zdM]
  refine Till.one (i := 10) (by kernel_rfl) rfl (fun K hK => ?_)
  have ca0 := hB2.2.1 0 _ rfl; have cf0 := hB2.2.2 0
  have ca1 := hB2.2.1 1 _ rfl; have cf1 := hB2.2.2 1
  have ca2 := hB2.2.1 2 _ rfl; have cf2 := hB2.2.2 2
  have ca3 := hB2.2.1 3 _ rfl; have cf3 := hB2.2.2 3
  have ca4 := hB2.2.1 4 _ rfl; have cf4 := hB2.2.2 4
  have ca5 := hB2.2.1 5 _ rfl; have cf5 := hB2.2.2 5
  have ca6 := hB2.2.1 6 _ rfl; have cf6 := hB2.2.2 6
  have ca7 := hB2.2.1 7 _ rfl; have cf7 := hB2.2.2 7
  have ca8 := hB2.2.1 8 _ rfl; have cf8 := hB2.2.2 8
  have ca9 := hB2.2.1 9 _ rfl; have cf9 := hB2.2.2 9
  have ca10 := hB2.2.1 10 _ rfl; have cf10 := hB2.2.2 10
  have ca11 := hB2.2.1 11 _ rfl; have cf11 := hB2.2.2 11
  go_simp
  clear ca0 cf0 ca1 cf1 ca2 cf2 ca3 cf3 ca4 cf4 ca5 cf5 ca6 cf6 ca7 cf7 ca8 cf8 ca9 cf9 ca10 cf10 ca11 cf11
  refine hK.out _ _ (fun h => absurd h (by decide)) ?_
  clear hK
  try simp only [Act.put, zdK, zdL, zdM]
  refine Till.done (by kernel_rfl) ?_ _
  have Tab := zax [.slice a0 s.syms.length c0] [.int .i64 f.kind, .int .i64 f.lit.atom.kind, .string f.lit.atom.a.name, .slice b3 f.lit.atom.a.kids.length d3, .string f.lit.atom.b.name, .slice b5 f.lit.atom.b.kids.length d5, .slice b6 f.lit.atom.nums.length d6, .slice b7 f.lit.atom.times.length d7, .int .i64 f.lit.atom.bound, .bool f.lit.atom.strict, .bool f.lit.no, .slice b11 f.kids.length d11] hA hB (by omega) rfl rfl
  have hO5 := Only.setsR (b := w.heap.size + 1) (by omega) (zc 0 [.int .i64 f.kind, .int .i64 f.lit.atom.kind, .string f.lit.atom.a.name, .slice b3 f.lit.atom.a.kids.length d3, .string f.lit.atom.b.name, .slice b5 f.lit.atom.b.kids.length d5, .slice b6 f.lit.atom.nums.length d6, .slice b7 f.lit.atom.times.length d7, .int .i64 f.lit.atom.bound, .bool f.lit.atom.strict, .bool f.lit.no, .slice b11 f.kids.length d11]) (Only.setsR (b := w.heap.size) (Nat.le_refl _) (zc 0 [.slice a0 s.syms.length c0]) hN)
  have hR9 := Rdr.sets (b := w.heap.size + 1) (by omega) (zc 0 [.int .i64 f.kind, .int .i64 f.lit.atom.kind, .string f.lit.atom.a.name, .slice b3 f.lit.atom.a.kids.length d3, .string f.lit.atom.b.name, .slice b5 f.lit.atom.b.kids.length d5, .slice b6 f.lit.atom.nums.length d6, .slice b7 f.lit.atom.times.length d7, .int .i64 f.lit.atom.bound, .bool f.lit.atom.strict, .bool f.lit.no, .slice b11 f.kids.length d11]) (Rdr.sets (b := w.heap.size) (by omega) (zc 0 [.slice a0 s.syms.length c0]) hRd)
  simp only [zc, zi, Nat.zero_add, Nat.reduceAdd] at Tab hO5 hR9
  obtain ⟨g1, g2, hK⟩ := Tab
  have ra0 := g1.2.1 0 _ rfl
  have rb0 := g2.2.1 0 _ rfl
  have rb1 := g2.2.1 1 _ rfl
  have rb2 := g2.2.1 2 _ rfl
  have rb3 := g2.2.1 3 _ rfl
  have rb4 := g2.2.1 4 _ rfl
  have rb5 := g2.2.1 5 _ rfl
  have rb6 := g2.2.1 6 _ rfl
  have rb7 := g2.2.1 7 _ rfl
  have rb8 := g2.2.1 8 _ rfl
  have rb9 := g2.2.1 9 _ rfl
  have rb10 := g2.2.1 10 _ rfl
  have rb11 := g2.2.1 11 _ rfl
  clear g1 g2 hF hB2
  go_wp2_with fail
  refine bodyPost_ret (v := .tuple #[.agg #[.slice a0 s.syms.length c0], .agg #[.int .i64 f.kind, .int .i64 f.lit.atom.kind, .string f.lit.atom.a.name, .slice b3 f.lit.atom.a.kids.length d3, .string f.lit.atom.b.name, .slice b5 f.lit.atom.b.kids.length d5, .slice b6 f.lit.atom.nums.length d6, .slice b7 f.lit.atom.times.length d7, .int .i64 f.lit.atom.bound, .bool f.lit.atom.strict, .bool f.lit.no, .slice b11 f.kids.length d11]]) (by simp [results, Tryz.results17, go_sem, ra0, rb0, rb1, rb2, rb3, rb4, rb5, rb6, rb7, rb8, rb9, rb10, rb11]) rfl ?_
  exact ⟨⟨s, f, _, _, _, _, _, _, _, _, _, _, _, _, sf, ff, ⟨hfew, hnice⟩, hwf, rfl, hrs.same2 hK (fun b hb => by have := hsf b hb; omega), hrf.same2 hK (fun b hb => by have := hlf2 b hb; omega), fun b hb => by have := hsf b hb; omega, fun b hb => by have := hlf2 b hb; omega⟩, hR9.mono (by simp only [gcap]; omega), hO5⟩
 ·skip
  go_simp
  have hl : Lst rb [.int .i64 3, .int .i64 4, .int .i64 2, .int .i64 3, .int .i64 1] v0.heap.size (v0.alloc (.cells #[.int .i64 3, .int .i64 4, .int .i64 2, .int .i64 3, .int .i64 1] 3)) := Lst.new hRd.lt _ _
  have hbn := za v0 (.cells #[.int .i64 3, .int .i64 4, .int .i64 2, .int .i64 3, .int .i64 1] 3)
  replace hF : (fun U : World => Box [.slice a0 s.syms.length c0] S U) _ := hF.below hbn
  replace hA := hA.below hbn
  replace hB := hB.below hbn
  replace hN := hN.trans (Only.below hbn)
  replace hrs := hrs.below hbn
  replace hRd := hRd.below hbn
  clear hbn
  generalize v0.alloc (.cells #[.int .i64 3, .int .i64 4, .int .i64 2, .int .i64 3, .int .i64 1] 3) = v1 at *
  refine hK.out _ _ (fun _ => hF) ?_
  clear hK
  try simp only [Act.put, zdK, zdL, zdM]
  refine Till.one (i := 4) (by kernel_rfl) rfl (fun K hK => ?_)
  go_simp; go_at_call 30
  refine (zbQ s _ sf rb (p + 1) _ (by omega) hfew hnice (by exact hrs) hnr (by exact hRd)).mono ?_
  rintro e v2 ⟨⟨l, lv, lf, ⟨hl1, hl6, hlx⟩, rfl, hrl, hlg⟩, hRn, ho⟩
  have hzz := hN.size
  have hFs := hF.1
  replace hlg : ∀ b ∈ lf, w.heap.size + 1 < b := fun b hb => by have := hlg b hb; omega
  clear hRd hzz
  replace hF : (fun U : World => Box [.slice a0 s.syms.length c0] S U) v2 := hF.only ho (by omega)
  replace hA := hA.only ho (by omega)
  replace hB := hB.only ho (by omega)
  replace hN := hN.trans ho
  replace hrs := hrs.only ho hnr
  have hRd := hRn
  clear hRn
  replace hl := hl.only ho
  have hnl : rb ∉ lf := fun h => by have := hlg _ h; omega
  have HLX := Lib.hid hlx
  clear ho hlx
  refine hK.out _ _ (fun _ => hF) ?_
  clear hK
  try simp only [Act.put, zdK, zdL, zdM]
  refine Till.one (i := 7) (by kernel_rfl) rfl (fun K hK => ?_)
  go_simp; go_at_call 11
  refine (zar 5 [3, 4, 2, 3, 1] [.int .i64 3, .int .i64 4, .int .i64 2, .int .i64 3, .int .i64 1] rfl rfl rb (p + 1 + 600) _ _ (by omega) (by simp) (by simp) (by exact hl) (by exact hRd)).mono ?_
  rintro e v3 ⟨⟨dv, hdv, rfl⟩, hRn, ho⟩
  have hd1 : 1 ≤ dv ∧ dv ≤ 4 := by simp at hdv; omega
  clear hRd hdv
  replace hF : (fun U : World => Box [.slice a0 s.syms.length c0] S U) v3 := hF.only ho (by omega)
  replace hA := hA.only ho (by omega)
  replace hB := hB.only ho (by omega)
  replace hN := hN.trans ho
  replace hrs := hrs.only ho hnr
  have hRd := hRn
  clear hRn
  replace hrl := hrl.only ho hnl
  clear ho hl
  refine hK.out _ _ (fun _ => hF) ?_
  clear hK
  try simp only [Act.put, zdK, zdL, zdM]
  refine Till.one (i := 8) (by kernel_rfl) rfl (fun K hK => ?_)
  go_simp; go_at_call 29
  refine (l9Any_n 4 l _ lf dv rb (p + 1 + 600 + 1) _ hd1.1 (by omega) (by omega) (by simp only [gcap]; omega) hl1 hl6 HLX (by exact hrl) hnl (by exact hRd)).mono ?_
  rintro e v4 ⟨⟨f, vf, ff, hwf, rfl, hrf, hff⟩, hRn, ho⟩
  obtain ⟨b3, d3, _, b5, d5, _, b6, d6, _, b7, d7, _, b11, d11, _, rfl, _, m0, m1, m2, m3, m4, m5, m6, m7, m8, m9⟩ := Fm.open hrf
  clear m0 m1 m2 m3 m4 m5 m6 m7 m8 m9
  have hzz := hF.1
  have hlf2 : ∀ b ∈ ff, w.heap.size + 1 < b := fun b hb => by
   rcases hff b hb with h | h
   ·exact hlg b h
   ·omega
  clear hRd
  replace hF : (fun U : World => Box [.slice a0 s.syms.length c0] S U) v4 := hF.only ho (by omega)
  replace hA := hA.only ho (by omega)
  replace hB := hB.only ho (by omega)
  replace hN := hN.trans ho
  replace hrs := hrs.only ho hnr
  have hRd := hRn
  clear hRn
  clear ho hrl
  refine hK.out _ _ (fun _ => hF) ?_
  clear hK
  try simp only [Act.put, zdK, zdL, zdM]
  refine Till.one (i := 9) (by kernel_rfl) rfl (fun K hK => ?_)
  have ca := hA.2.1 0 _ rfl; have cf := hA.2.2 0
  go_simp
  have hB2 := hB.sets_other (b := w.heap.size) (by omega) [(0, .slice a0 s.syms.length c0)]
  have hF2 : (fun U : World => Box [.slice a0 s.syms.length c0] S U) _ := hF.sets_other (b := w.heap.size) (by omega) [(0, .slice a0 s.syms.length c0)]
  simp only [zi] at hB2 hF2
  clear hF ca cf
  have hF := hF2
  clear hF2
  refine hK.out _ _ (fun _ => hF) ?_
  clear hK
  try simp only [Act.put, zdK, zdL, zdM]
  refine Till.one (i := 10) (by kernel_rfl) rfl (fun K hK => ?_)
  have ca0 := hB2.2.1 0 _ rfl; have cf0 := hB2.2.2 0
  have ca1 := hB2.2.1 1 _ rfl; have cf1 := hB2.2.2 1
  have ca2 := hB2.2.1 2 _ rfl; have cf2 := hB2.2.2 2
  have ca3 := hB2.2.1 3 _ rfl; have cf3 := hB2.2.2 3
  have ca4 := hB2.2.1 4 _ rfl; have cf4 := hB2.2.2 4
  have ca5 := hB2.2.1 5 _ rfl; have cf5 := hB2.2.2 5
  have ca6 := hB2.2.1 6 _ rfl; have cf6 := hB2.2.2 6
  have ca7 := hB2.2.1 7 _ rfl; have cf7 := hB2.2.2 7
  have ca8 := hB2.2.1 8 _ rfl; have cf8 := hB2.2.2 8
  have ca9 := hB2.2.1 9 _ rfl; have cf9 := hB2.2.2 9
  have ca10 := hB2.2.1 10 _ rfl; have cf10 := hB2.2.2 10
  have ca11 := hB2.2.1 11 _ rfl; have cf11 := hB2.2.2 11
  go_simp
  clear ca0 cf0 ca1 cf1 ca2 cf2 ca3 cf3 ca4 cf4 ca5 cf5 ca6 cf6 ca7 cf7 ca8 cf8 ca9 cf9 ca10 cf10 ca11 cf11
  refine hK.out _ _ (fun h => absurd h (by decide)) ?_
  clear hK
  try simp only [Act.put, zdK, zdL, zdM]
  refine Till.done (by kernel_rfl) ?_ _
  have Tab := zax [.slice a0 s.syms.length c0] [.int .i64 f.kind, .int .i64 f.lit.atom.kind, .string f.lit.atom.a.name, .slice b3 f.lit.atom.a.kids.length d3, .string f.lit.atom.b.name, .slice b5 f.lit.atom.b.kids.length d5, .slice b6 f.lit.atom.nums.length d6, .slice b7 f.lit.atom.times.length d7, .int .i64 f.lit.atom.bound, .bool f.lit.atom.strict, .bool f.lit.no, .slice b11 f.kids.length d11] hA hB (by omega) rfl rfl
  have hO5 := Only.setsR (b := w.heap.size + 1) (by omega) (zc 0 [.int .i64 f.kind, .int .i64 f.lit.atom.kind, .string f.lit.atom.a.name, .slice b3 f.lit.atom.a.kids.length d3, .string f.lit.atom.b.name, .slice b5 f.lit.atom.b.kids.length d5, .slice b6 f.lit.atom.nums.length d6, .slice b7 f.lit.atom.times.length d7, .int .i64 f.lit.atom.bound, .bool f.lit.atom.strict, .bool f.lit.no, .slice b11 f.kids.length d11]) (Only.setsR (b := w.heap.size) (Nat.le_refl _) (zc 0 [.slice a0 s.syms.length c0]) hN)
  have hR9 := Rdr.sets (b := w.heap.size + 1) (by omega) (zc 0 [.int .i64 f.kind, .int .i64 f.lit.atom.kind, .string f.lit.atom.a.name, .slice b3 f.lit.atom.a.kids.length d3, .string f.lit.atom.b.name, .slice b5 f.lit.atom.b.kids.length d5, .slice b6 f.lit.atom.nums.length d6, .slice b7 f.lit.atom.times.length d7, .int .i64 f.lit.atom.bound, .bool f.lit.atom.strict, .bool f.lit.no, .slice b11 f.kids.length d11]) (Rdr.sets (b := w.heap.size) (by omega) (zc 0 [.slice a0 s.syms.length c0]) hRd)
  simp only [zc, zi, Nat.zero_add, Nat.reduceAdd] at Tab hO5 hR9
  obtain ⟨g1, g2, hK⟩ := Tab
  have ra0 := g1.2.1 0 _ rfl
  have rb0 := g2.2.1 0 _ rfl
  have rb1 := g2.2.1 1 _ rfl
  have rb2 := g2.2.1 2 _ rfl
  have rb3 := g2.2.1 3 _ rfl
  have rb4 := g2.2.1 4 _ rfl
  have rb5 := g2.2.1 5 _ rfl
  have rb6 := g2.2.1 6 _ rfl
  have rb7 := g2.2.1 7 _ rfl
  have rb8 := g2.2.1 8 _ rfl
  have rb9 := g2.2.1 9 _ rfl
  have rb10 := g2.2.1 10 _ rfl
  have rb11 := g2.2.1 11 _ rfl
  clear g1 g2 hF hB2
  go_wp2_with fail
  refine bodyPost_ret (v := .tuple #[.agg #[.slice a0 s.syms.length c0], .agg #[.int .i64 f.kind, .int .i64 f.lit.atom.kind, .string f.lit.atom.a.name, .slice b3 f.lit.atom.a.kids.length d3, .string f.lit.atom.b.name, .slice b5 f.lit.atom.b.kids.length d5, .slice b6 f.lit.atom.nums.length d6, .slice b7 f.lit.atom.times.length d7, .int .i64 f.lit.atom.bound, .bool f.lit.atom.strict, .bool f.lit.no, .slice b11 f.kids.length d11]]) (by simp [results, Tryz.results17, go_sem, ra0, rb0, rb1, rb2, rb3, rb4, rb5, rb6, rb7, rb8, rb9, rb10, rb11]) rfl ?_
  exact ⟨⟨s, f, _, _, _, _, _, _, _, _, _, _, _, _, sf, ff, ⟨hfew, hnice⟩, hwf, rfl, hrs.same2 hK (fun b hb => by have := hsf b hb; omega), hrf.same2 hK (fun b hb => by have := hlf2 b hb; omega), fun b hb => by have := hsf b hb; omega, fun b hb => by have := hlf2 b hb; omega⟩, hR9.mono (by simp only [gcap]; omega), hO5⟩
end Go.Proofs.YtoehhbkhdddeeaaGreatDoor
end
