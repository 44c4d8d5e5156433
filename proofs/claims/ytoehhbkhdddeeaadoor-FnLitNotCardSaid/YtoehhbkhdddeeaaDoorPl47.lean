/- Parts of the proof: LitD. -/
import Derived.Test.YtoehhbkhdddeeaaDoorPl38
import Derived.Test.YtoehhbkhdddeeaaDoorPl39
import Derived.Test.YtoehhbkhdddeeaaDoorPl46
section
namespace Go.Proofs.YtoehhbkhdddeeaaDoor
open Go Go.RowKit
set_option linter.unusedVariables false
set_option linter.unusedSimpArgs false
set_option maxRecDepth 100000
set_option maxHeartbeats 16000000
def DrawnLt (B : Nat) (e : Ending) (w' : World) : Prop := ∃ (y : Atm) (no : Bool) (a2 : Option Addr) (c2 : Nat) (a4 : Option Addr) (c4 : Nat) (a5 : Option Addr) (c5 : Nat) (a6 : Option Addr) (c6 : Nat) (f : List Nat), y.tame ∧
 e = .returned (.agg #[.int .i64 y.kind, .string y.a.name, .slice a2 y.a.kids.length c2, .string y.b.name, .slice a4 y.b.kids.length c4, .slice a5 y.nums.length c5, .slice a6 y.times.length c6, .int .i64 y.bound, .bool y.strict, .bool no]) ∧ RdVs w' y.cd [.int .i64 y.kind, .string y.a.name, .slice a2 y.a.kids.length c2, .string y.b.name, .slice a4 y.b.kids.length c4, .slice a5 y.nums.length c5, .slice a6 y.times.length c6, .int .i64 y.bound, .bool y.strict] f ∧ ∀ b ∈ f, B ≤ b
theorem zbl (v : Value) (w : World) (hv : Byts w v) :
  Calls Tryd.prog 23 #[v] w fun e w' => DrawnLt w.heap.size e w' ∧ Below w.heap.size w w' := by
 have hA := Box.new w [.int .i64 0, .string ⟨#[]⟩, .slice none 0 0, .string ⟨#[]⟩, .slice none 0 0, .slice none 0 0, .slice none 0 0, .int .i64 0, .bool false, .bool false] 30
 have hb0 := zc w (.cells #[.int .i64 0, .string ⟨#[]⟩, .slice none 0 0, .string ⟨#[]⟩, .slice none 0 0, .slice none 0 0, .slice none 0 0, .int .i64 0, .bool false, .bool false] 30)
 go_enter Tryd.func23, Tryd.ntmps23
 go_upto_region 1 with fail
 generalize w.alloc (.cells #[.int .i64 0, .string ⟨#[]⟩, .slice none 0 0, .string ⟨#[]⟩, .slice none 0 0, .slice none 0 0, .slice none 0 0, .int .i64 0, .bool false, .bool false] 30) = W0 at *
 have hlt0 := hA.1
 go_wp2_with fail
 refine (zbD v _ (by exact hv.below hb0)).mono ?_
 rintro e u1 ⟨rfl, hu1, hb1⟩
 replace hA := hA.below hb1
 have hBW := hb0.trans (hb1.mono hb0.size)
 obtain ⟨rb, hrb⟩ : ∃ rb, rb = W0.heap.size := ⟨_, rfl⟩
 rw [← hrb] at hu1 ⊢
 have hrw : w.heap.size < rb := by omega
 have hrl := hu1.lt
 clear hb1 hb0 hrb hlt0
 go_wp2_with fail
 refine (zb0 rb 0 _ (by omega) hu1).mono ?_
 rintro e u2 ⟨⟨s, vs, sf, ⟨hfew, hnice⟩, rfl, hrd, hsf⟩, hu2, ho2⟩
 obtain ⟨a0, c0, _, rfl, rfl, m0⟩ := Sg.open hrd
 have hnr : rb ∉ sf := fun h => by have := hsf _ h; omega
 replace hA := hA.only ho2 (by omega)
 replace hBW := hBW.trans (ho2.toBelow (B := w.heap.size) (by omega) (fun b hb => by simp at hb; omega))
 have hrl2 := hu2.lt
 clear ho2 hu1
 go_wp2_with fail
 refine (zb3 s _ sf rb (0 + 1) _ (by omega) hfew hnice (by exact hrd) hnr hu2).mono ?_
 rintro e u3 ⟨⟨y, vy, fy, ht, rfl, hry, hfy⟩, hu3, ho3⟩
 obtain ⟨a2, c2, _, a4, c4, _, a5, c5, _, a6, c6, _, rfl, _, m0, m1, m2, m3, m4, m5, m6, m7⟩ := Atm.open hry
 have hnry : rb ∉ fy := fun h => by have := hfy _ h; omega
 have hfw : ∀ b ∈ fy, w.heap.size < b := fun b hb => by have := hfy b hb; omega
 replace hA := hA.only ho3 (by omega)
 replace hBW := hBW.trans (ho3.toBelow (B := w.heap.size) (by omega) (fun b hb => by simp at hb; omega))
 have hrl3 := hu3.lt
 clear ho3 hu2 m0 m1 m2 m3 m4 m5 m6 m7
 go_wp2_with fail
 refine (zS rb (0 + 1 + 200) 3 _ (by omega) (by omega) (by omega) hu3).mono ?_
 rintro e u4 ⟨⟨m, hm, rfl⟩, hu4, ho4⟩
 replace hA := hA.only ho4 (by omega)
 replace hBW := hBW.trans (ho4.toBelow (B := w.heap.size) (by omega) (fun b hb => by simp at hb; omega))
 replace hry := hry.only ho4 hnry
 obtain ⟨no, hno⟩ : ∃ no : Bool, ((m : Int) == 0) = no := ⟨_, rfl⟩
 clear ho4 hu3 hu4 hrl hrl2 hrl3
 have d0 := hA.2.1 0 _ rfl; have f0 := hA.2.2 0; have d1 := hA.2.1 1 _ rfl; have f1 := hA.2.2 1; have d2 := hA.2.1 2 _ rfl; have f2 := hA.2.2 2; have d3 := hA.2.1 3 _ rfl; have f3 := hA.2.2 3; have d4 := hA.2.1 4 _ rfl; have f4 := hA.2.2 4; have d5 := hA.2.1 5 _ rfl; have f5 := hA.2.2 5; have d6 := hA.2.1 6 _ rfl; have f6 := hA.2.2 6; have d7 := hA.2.1 7 _ rfl; have f7 := hA.2.2 7; have d8 := hA.2.1 8 _ rfl; have f8 := hA.2.2 8; have d9 := hA.2.1 9 _ rfl; have f9 := hA.2.2 9
 have hP := hA.puts [.int .i64 y.kind, .string y.a.name, .slice a2 y.a.kids.length c2, .string y.b.name, .slice a4 y.b.kids.length c4, .slice a5 y.nums.length c5, .slice a6 y.times.length c6, .int .i64 y.bound, .bool y.strict, .bool no] rfl
 have hBP := zat (b := w.heap.size) (Nat.le_refl _) (zU 0 [.int .i64 y.kind, .string y.a.name, .slice a2 y.a.kids.length c2, .string y.b.name, .slice a4 y.b.kids.length c4, .slice a5 y.nums.length c5, .slice a6 y.times.length c6, .int .i64 y.bound, .bool y.strict, .bool no]) hBW
 have hK := (Same2.refl w.heap.size w.heap.size u4).sets (b := w.heap.size) (.inl rfl) (zU 0 [.int .i64 y.kind, .string y.a.name, .slice a2 y.a.kids.length c2, .string y.b.name, .slice a4 y.b.kids.length c4, .slice a5 y.nums.length c5, .slice a6 y.times.length c6, .int .i64 y.bound, .bool y.strict, .bool no])
 have hry9 := hry.same2 hK (fun b hb => by have := hfw b hb; omega)
 simp only [zU, zi, Nat.zero_add, Nat.reduceAdd] at hP hBP hry9
 clear hK hA hBW hry
 have r0 := hP.2.1 0 _ rfl; have r1 := hP.2.1 1 _ rfl; have r2 := hP.2.1 2 _ rfl; have r3 := hP.2.1 3 _ rfl; have r4 := hP.2.1 4 _ rfl; have r5 := hP.2.1 5 _ rfl; have r6 := hP.2.1 6 _ rfl; have r7 := hP.2.1 7 _ rfl; have r8 := hP.2.1 8 _ rfl; have r9 := hP.2.1 9 _ rfl
 go_wp2_with fail
 refine bodyPost_ret (v := .agg #[.int .i64 y.kind, .string y.a.name, .slice a2 y.a.kids.length c2, .string y.b.name, .slice a4 y.b.kids.length c4, .slice a5 y.nums.length c5, .slice a6 y.times.length c6, .int .i64 y.bound, .bool y.strict, .bool no]) (by simp [results, Tryd.results23, go_sem, r0, r1, r2, r3, r4, r5, r6, r7, r8, r9]) rfl ?_
 exact ⟨⟨y, no, a2, c2, a4, c4, a5, c5, a6, c6, fy, ht, rfl, hry9, fun b hb => Nat.le_of_lt (hfw b hb)⟩, hBP⟩
theorem za3 (v : Value) (w : World) (hv : Byts w v) :
  Calls Tryd.prog 6 #[v] w fun e w' => DrawnLt w.heap.size e w' ∧ Below w.heap.size w w' := by
 have hA := Box.new w [.int .i64 0, .string ⟨#[]⟩, .slice none 0 0, .string ⟨#[]⟩, .slice none 0 0, .slice none 0 0, .slice none 0 0, .int .i64 0, .bool false, .bool false] 30
 have hb0 := zc w (.cells #[.int .i64 0, .string ⟨#[]⟩, .slice none 0 0, .string ⟨#[]⟩, .slice none 0 0, .slice none 0 0, .slice none 0 0, .int .i64 0, .bool false, .bool false] 30)
 go_enter Tryd.func6, Tryd.ntmps6
 go_upto_region 1 with fail
 generalize w.alloc (.cells #[.int .i64 0, .string ⟨#[]⟩, .slice none 0 0, .string ⟨#[]⟩, .slice none 0 0, .slice none 0 0, .slice none 0 0, .int .i64 0, .bool false, .bool false] 30) = W0 at *
 go_wp2_with fail
 refine (zbl v _ (by exact hv.below hb0)).mono ?_
 rintro e u4 ⟨⟨y, no, a2, c2, a4, c4, a5, c5, a6, c6, fy, ht, rfl, hry, hown0⟩, hb1⟩
 have hBW := hb0.trans (hb1.mono hb0.size)
 have hfw : ∀ b ∈ fy, w.heap.size < b := fun b hb => by have := hown0 b hb; have := hA.1; omega
 replace hA := hA.below hb1
 clear hb0 hb1
 have d0 := hA.2.1 0 _ rfl; have f0 := hA.2.2 0; have d1 := hA.2.1 1 _ rfl; have f1 := hA.2.2 1; have d2 := hA.2.1 2 _ rfl; have f2 := hA.2.2 2; have d3 := hA.2.1 3 _ rfl; have f3 := hA.2.2 3; have d4 := hA.2.1 4 _ rfl; have f4 := hA.2.2 4; have d5 := hA.2.1 5 _ rfl; have f5 := hA.2.2 5; have d6 := hA.2.1 6 _ rfl; have f6 := hA.2.2 6; have d7 := hA.2.1 7 _ rfl; have f7 := hA.2.2 7; have d8 := hA.2.1 8 _ rfl; have f8 := hA.2.2 8; have d9 := hA.2.1 9 _ rfl; have f9 := hA.2.2 9
 have hP := hA.puts [.int .i64 y.kind, .string y.a.name, .slice a2 y.a.kids.length c2, .string y.b.name, .slice a4 y.b.kids.length c4, .slice a5 y.nums.length c5, .slice a6 y.times.length c6, .int .i64 y.bound, .bool y.strict, .bool no] rfl
 have hBP := zat (b := w.heap.size) (Nat.le_refl _) (zU 0 [.int .i64 y.kind, .string y.a.name, .slice a2 y.a.kids.length c2, .string y.b.name, .slice a4 y.b.kids.length c4, .slice a5 y.nums.length c5, .slice a6 y.times.length c6, .int .i64 y.bound, .bool y.strict, .bool no]) hBW
 have hK := (Same2.refl w.heap.size w.heap.size u4).sets (b := w.heap.size) (.inl rfl) (zU 0 [.int .i64 y.kind, .string y.a.name, .slice a2 y.a.kids.length c2, .string y.b.name, .slice a4 y.b.kids.length c4, .slice a5 y.nums.length c5, .slice a6 y.times.length c6, .int .i64 y.bound, .bool y.strict, .bool no])
 have hry9 := hry.same2 hK (fun b hb => by have := hfw b hb; omega)
 simp only [zU, zi, Nat.zero_add, Nat.reduceAdd] at hP hBP hry9
 clear hK hA hBW hry
 have r0 := hP.2.1 0 _ rfl; have r1 := hP.2.1 1 _ rfl; have r2 := hP.2.1 2 _ rfl; have r3 := hP.2.1 3 _ rfl; have r4 := hP.2.1 4 _ rfl; have r5 := hP.2.1 5 _ rfl; have r6 := hP.2.1 6 _ rfl; have r7 := hP.2.1 7 _ rfl; have r8 := hP.2.1 8 _ rfl; have r9 := hP.2.1 9 _ rfl
 go_wp2_with fail
 refine bodyPost_ret (v := .agg #[.int .i64 y.kind, .string y.a.name, .slice a2 y.a.kids.length c2, .string y.b.name, .slice a4 y.b.kids.length c4, .slice a5 y.nums.length c5, .slice a6 y.times.length c6, .int .i64 y.bound, .bool y.strict, .bool no]) (by simp [results, Tryd.results6, go_sem, r0, r1, r2, r3, r4, r5, r6, r7, r8, r9]) rfl ?_
 exact ⟨⟨y, no, a2, c2, a4, c4, a5, c5, a6, c6, fy, ht, rfl, hry9, fun b hb => Nat.le_of_lt (hfw b hb)⟩, hBP⟩
end Go.Proofs.YtoehhbkhdddeeaaDoor
end
