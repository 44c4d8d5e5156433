/- Parts of the proof: PutF. -/
import Derived.Test.YtoehhbkhdddeeaaGreatDoorPf36
import Derived.Test.YtoehhbkhdddeeaaGreatDoorPf29
import Derived.Test.YtoehhbkhdddeeaaGreatDoorPf7
section
namespace Go.Proofs.YtoehhbkhdddeeaaGreatDoor
open Go Go.RowKit
set_option linter.unusedVariables false
set_option linter.unusedSimpArgs false
set_option maxRecDepth 100000
set_option maxHeartbeats 16000000
theorem Lst.grownL {u u' : World} {rb b : Nat} {vs : List Value} {row : Option Nat} (h : Lst rb vs b u) (hg : u.grownBy u' row) (hr : ∀ q, row = some q → q ≠ b) : Lst rb vs b u' := by
 have hn : row ≠ some b := fun e => hr b e rfl
 exact ⟨h.1, zdQ h.2.1 hg.size, fun j x hx => zg hg (h.2.2.1 j x hx) hn, fun j => zt hg h.2.1 (h.2.2.2 j) hn⟩
theorem zdx (s : Sg) (vs : List Value) (sf : List Nat) (rb p : Nat) (w : World) (hp : p + 200 ≤ 1000000000) (hfew : s.few) (hnice : s.nice) (hrd : RdVs w s.cd vs sf) (hnr : rb ∉ sf) (hr : Rdr w rb p) :
  Calls Tryz.prog 18 #[.pointer (some ⟨rb, 0, none⟩), .agg vs.toArray] w fun e w' => DrawnA w e w' ∧ Rdr w' rb (p + 200) ∧ Only [rb] w w' := by
 obtain ⟨a0, c0, f0, rfl, rfl, m0⟩ := Sg.open hrd
 have hlt := hr.lt
 have hB2 : Below w.heap.size w ((w.alloc (.cells #[.slice a0 s.syms.length c0] 43)).alloc (.cells #[.int .i64 0, .string ⟨#[]⟩, .slice none 0 0, .string ⟨#[]⟩, .slice none 0 0, .slice none 0 0, .slice none 0 0, .int .i64 0, .bool false] 28)) := ((Below.refl _ _).alloc (Nat.le_refl _) _).alloc (by simp) _
 have hR0 : Lst rb [.int .i64 0, .string ⟨#[]⟩, .slice none 0 0, .string ⟨#[]⟩, .slice none 0 0, .slice none 0 0, .slice none 0 0, .int .i64 0, .bool false] (w.heap.size + 1) ((w.alloc (.cells #[.slice a0 s.syms.length c0] 43)).alloc (.cells #[.int .i64 0, .string ⟨#[]⟩, .slice none 0 0, .string ⟨#[]⟩, .slice none 0 0, .slice none 0 0, .slice none 0 0, .int .i64 0, .bool false] 28)) := Lst.new1 hlt _ [.int .i64 0, .string ⟨#[]⟩, .slice none 0 0, .string ⟨#[]⟩, .slice none 0 0, .slice none 0 0, .slice none 0 0, .int .i64 0, .bool false] 28
 have hX0 : Lst rb [.slice a0 s.syms.length c0] w.heap.size ((w.alloc (.cells #[.slice a0 s.syms.length c0] 43)).alloc (.cells #[.int .i64 0, .string ⟨#[]⟩, .slice none 0 0, .string ⟨#[]⟩, .slice none 0 0, .slice none 0 0, .slice none 0 0, .int .i64 0, .bool false] 28)) := (Lst.new hlt [.slice a0 s.syms.length c0] 43).alloc _
 have hs0 : ((w.alloc (.cells #[.slice a0 s.syms.length c0] 43)).alloc (.cells #[.int .i64 0, .string ⟨#[]⟩, .slice none 0 0, .string ⟨#[]⟩, .slice none 0 0, .slice none 0 0, .slice none 0 0, .int .i64 0, .bool false] 28)).heap.size = w.heap.size + 1 + 1 := by simp
 go_enter Tryz.func18, Tryz.ntmps18
 go_upto_region 1 with fail
 generalize (w.alloc (.cells #[.slice a0 s.syms.length c0] 43)).alloc (.cells #[.int .i64 0, .string ⟨#[]⟩, .slice none 0 0, .string ⟨#[]⟩, .slice none 0 0, .slice none 0 0, .slice none 0 0, .int .i64 0, .bool false] 28) = W0 at *
 have x0 := hX0.2.2.1 0 _ rfl
 go_wp2_with fail
 refine (zci s _ sf rb p _ (by omega) hfew hnice (by exact hrd.below hB2) hnr (hr.below hB2)).mono ?_
 rintro e w1 ⟨⟨y, a2, c2, fA, a4, c4, fB, a5, c5, a6, c6, fn, hyf, rfl, AO⟩, hr1, ho1⟩
 rw [hs0] at AO
 have hoff := AO.off
 have hL1 := AO.toL hoff
 have hN1 : Only [rb] w w1 := (Only.below hB2).trans ho1
 have hR1 := hR0.only ho1
 have hX1 := hX0.only ho1
 have hz1 := ho1.size
 clear hR0 hX0 x0 ho1 hB2
 have ht := hyf.tame
 obtain ⟨V, hVe⟩ : ∃ V, V = w1.heap.size := ⟨_, rfl⟩
 have hVz : w.heap.size + 1 + 1 ≤ V := by omega
 clear hs0 hz1
 go_upto_region 2 with fail
 have hV2 : Lst rb [.int .i64 y.kind, .string y.a.name, .slice a2 y.a.kids.length c2, .string y.b.name, .slice a4 y.b.kids.length c4, .slice a5 y.nums.length c5, .slice a6 y.times.length c6, .int .i64 y.bound, .bool y.strict] V (w1.alloc (.cells #[.int .i64 y.kind, .string y.a.name, .slice a2 y.a.kids.length c2, .string y.b.name, .slice a4 y.b.kids.length c4, .slice a5 y.nums.length c5, .slice a6 y.times.length c6, .int .i64 y.bound, .bool y.strict] 28)) := by rw [hVe]; exact Lst.new hr1.lt _ _
 rw [← hVe] at hoff hL1
 rw [← hVe]
 have hR2 := hR1.alloc (.cells #[.int .i64 y.kind, .string y.a.name, .slice a2 y.a.kids.length c2, .string y.b.name, .slice a4 y.b.kids.length c4, .slice a5 y.nums.length c5, .slice a6 y.times.length c6, .int .i64 y.bound, .bool y.strict] 28)
 have hX2 := hX1.alloc (.cells #[.int .i64 y.kind, .string y.a.name, .slice a2 y.a.kids.length c2, .string y.b.name, .slice a4 y.b.kids.length c4, .slice a5 y.nums.length c5, .slice a6 y.times.length c6, .int .i64 y.bound, .bool y.strict] 28)
 have hL2 := hL1.below (za _ (.cells #[.int .i64 y.kind, .string y.a.name, .slice a2 y.a.kids.length c2, .string y.b.name, .slice a4 y.b.kids.length c4, .slice a5 y.nums.length c5, .slice a6 y.times.length c6, .int .i64 y.bound, .bool y.strict] 28))
 have hO2 := AO.below (za _ (.cells #[.int .i64 y.kind, .string y.a.name, .slice a2 y.a.kids.length c2, .string y.b.name, .slice a4 y.b.kids.length c4, .slice a5 y.nums.length c5, .slice a6 y.times.length c6, .int .i64 y.bound, .bool y.strict] 28))
 have hr2 := hr1.alloc (.cells #[.int .i64 y.kind, .string y.a.name, .slice a2 y.a.kids.length c2, .string y.b.name, .slice a4 y.b.kids.length c4, .slice a5 y.nums.length c5, .slice a6 y.times.length c6, .int .i64 y.bound, .bool y.strict] 28)
 have hN2 := hN1.alloc (.cells #[.int .i64 y.kind, .string y.a.name, .slice a2 y.a.kids.length c2, .string y.b.name, .slice a4 y.b.kids.length c4, .slice a5 y.nums.length c5, .slice a6 y.times.length c6, .int .i64 y.bound, .bool y.strict] 28)
 generalize w1.alloc (.cells #[.int .i64 y.kind, .string y.a.name, .slice a2 y.a.kids.length c2, .string y.b.name, .slice a4 y.b.kids.length c4, .slice a5 y.nums.length c5, .slice a6 y.times.length c6, .int .i64 y.bound, .bool y.strict] 28) = w2 at *
 clear hVe hR1 hX1 hL1 AO hr1 hN1
 go_wp2_with fail
 refine (zz rb (p + 100) 80 _ (by omega) (by omega) (by omega) hr2).mono ?_
 clear hr2
 rintro e w3 ⟨⟨d, hd, rfl⟩, hr2, ho3⟩
 have hV3 := hV2.only ho3
 have hR3 := hR2.only ho3
 have hX3 := hX2.only ho3
 have hL3 := hL2.only ho3 (by omega)
 have hO1 := hO2.only ho3 (by omega)
 have hN3 := hN2.trans ho3
 have hrd3 : RdVs w3 s.cd [.slice a0 s.syms.length c0] sf := hrd.only hN3 hnr
 have x3 := hX3.2.2.1 0 _ rfl
 clear hV2 hR2 hX2 hL2 hO2 hN2 ho3 hd
 by_cases d0 : d = 0
 ·subst d0
  go_wp2_with fail
  refine (zar 4 [0, 3, 1, 2] [.int .i64 0, .int .i64 3, .int .i64 1, .int .i64 2] rfl rfl rb (p + 100 + 1) _ _ (by omega) (by simp) (by simp) (by exact Lst.new hr2.lt _ _) (hr2.below (za _ _))).mono ?_
  rintro e w4 ⟨⟨x, hx, rfl⟩, hr4, ho4⟩
  have hx64 : I64 x := by simp at hx; unfold I64; omega
  have hV4 := (hV3.alloc (.cells #[.int .i64 0, .int .i64 3, .int .i64 1, .int .i64 2] 3)).only ho4
  have hR4 := (hR3.alloc (.cells #[.int .i64 0, .int .i64 3, .int .i64 1, .int .i64 2] 3)).only ho4
  have hL4 := (hL3.below (za _ (.cells #[.int .i64 0, .int .i64 3, .int .i64 1, .int .i64 2] 3))).only ho4 (by omega)
  have hN4 := (hN3.alloc (.cells #[.int .i64 0, .int .i64 3, .int .i64 1, .int .i64 2] 3)).trans ho4
  clear hV3 hR3 hL3 hN3 hr2 ho4 hx
  have k0 := hV4.2.2.1 0 _ rfl; have k1 := hV4.2.2.2 0
  go_upto_region 14 with fail
  have hV : Lst rb [.int .i64 x, .string y.a.name, .slice a2 y.a.kids.length c2, .string y.b.name, .slice a4 y.b.kids.length c4, .slice a5 y.nums.length c5, .slice a6 y.times.length c6, .int .i64 y.bound, .bool y.strict] V (w4.setCell ⟨V, 0, none⟩ (.int .i64 x)) := hV4.put (k := 0) (by simp) _
  have hRS : Lst rb [.int .i64 0, .string ⟨#[]⟩, .slice none 0 0, .string ⟨#[]⟩, .slice none 0 0, .slice none 0 0, .slice none 0 0, .int .i64 0, .bool false] (w.heap.size + 1) (w4.setCell ⟨V, 0, none⟩ (.int .i64 x)) := hR4.sets_other (b := V) (.inl (by omega)) [(0, .int .i64 x)]
  have AL := (hL4.setV [(0, .int .i64 x)]).kind hx64
  have hrr := Rdr.sets (b := V) (by omega) [(0, .int .i64 x)] hr4
  have hNW := Only.setsR (b := V) (by omega) [(0, .int .i64 x)] hN4
  have hsz := hNW.size
  simp only [zi] at AL hrr hNW hsz
  clear hV4 hR4 hL4 hN4 hr4 k0 k1
  generalize w4.setCell ⟨V, 0, none⟩ (.int .i64 x) = W5 at *
  have q0 := hV.2.2.1 0 _ rfl; have vc0 := hRS.2.2.1 0 _ rfl; have vf0 := hRS.2.2.2 0
  have q1 := hV.2.2.1 1 _ rfl; have vc1 := hRS.2.2.1 1 _ rfl; have vf1 := hRS.2.2.2 1
  have q2 := hV.2.2.1 2 _ rfl; have vc2 := hRS.2.2.1 2 _ rfl; have vf2 := hRS.2.2.2 2
  have q3 := hV.2.2.1 3 _ rfl; have vc3 := hRS.2.2.1 3 _ rfl; have vf3 := hRS.2.2.2 3
  have q4 := hV.2.2.1 4 _ rfl; have vc4 := hRS.2.2.1 4 _ rfl; have vf4 := hRS.2.2.2 4
  have q5 := hV.2.2.1 5 _ rfl; have vc5 := hRS.2.2.1 5 _ rfl; have vf5 := hRS.2.2.2 5
  have q6 := hV.2.2.1 6 _ rfl; have vc6 := hRS.2.2.1 6 _ rfl; have vf6 := hRS.2.2.2 6
  have q7 := hV.2.2.1 7 _ rfl; have vc7 := hRS.2.2.1 7 _ rfl; have vf7 := hRS.2.2.2 7
  have q8 := hV.2.2.1 8 _ rfl; have vc8 := hRS.2.2.1 8 _ rfl; have vf8 := hRS.2.2.2 8
  have A5 := AL.setLow (b := w.heap.size + 1) [(0, .int .i64 x), (1, .string y.a.name), (2, .slice a2 y.a.kids.length c2), (3, .string y.b.name), (4, .slice a4 y.b.kids.length c4), (5, .slice a5 y.nums.length c5), (6, .slice a6 y.times.length c6), (7, .int .i64 y.bound), (8, .bool y.strict)] (by omega)
  have O5 := Only.setsR (b := w.heap.size + 1) (by omega) [(0, .int .i64 x), (1, .string y.a.name), (2, .slice a2 y.a.kids.length c2), (3, .string y.b.name), (4, .slice a4 y.b.kids.length c4), (5, .slice a5 y.nums.length c5), (6, .slice a6 y.times.length c6), (7, .int .i64 y.bound), (8, .bool y.strict)] hNW
  have R9 := Rdr.sets (b := w.heap.size + 1) (by omega) [(0, .int .i64 x), (1, .string y.a.name), (2, .slice a2 y.a.kids.length c2), (3, .string y.b.name), (4, .slice a4 y.b.kids.length c4), (5, .slice a5 y.nums.length c5), (6, .slice a6 y.times.length c6), (7, .int .i64 y.bound), (8, .bool y.strict)] (hrr.mono (q := p + 200) (by (try simp only [pcap]); omega))
  have NS := zI (u := W5) (b := w.heap.size + 1) (.int .i64 x) (.string y.a.name) (.slice a2 y.a.kids.length c2) (.string y.b.name) (.slice a4 y.b.kids.length c4) (.slice a5 y.nums.length c5) (.slice a6 y.times.length c6) (.int .i64 y.bound) (.bool y.strict) (fun j hj => by
   rcases j with _ | _ | _ | _ | _ | _ | _ | _ | _ | j
   all_goals first | exact ⟨_, hRS.2.2.1 _ _ rfl⟩ | omega)
  clear hV hRS hrr hNW AL
  simp only [zi] at A5 O5 R9 NS
  obtain ⟨R0, R1, R2, R3, R4, R5, R6, R7, R8⟩ := NS
  obtain ⟨fz, hfz, hge⟩ := A5.rd
  go_wp2_with fail
  refine bodyPost_ret (v := .agg #[.int .i64 x, .string y.a.name, .slice a2 y.a.kids.length c2, .string y.b.name, .slice a4 y.b.kids.length c4, .slice a5 y.nums.length c5, .slice a6 y.times.length c6, .int .i64 y.bound, .bool y.strict]) (by simp [results, Tryz.results18, go_sem, R0, R1, R2, R3, R4, R5, R6, R7, R8]) rfl ?_
  exact ⟨⟨{ y with kind := x }, _, fz, ⟨ht.1, ht.2.1, ht.2.2.1, ht.2.2.2.1, ht.2.2.2.2.1, by have h6 := ht.2.2.2.2.2; rw [Atm.wtV_eq] at h6 ⊢; exact h6⟩, rfl, hfz, fun b hb => by have := hge b hb; omega⟩, R9, O5⟩
 have e0 : ((d : Int) == 0) = false := by simpa using (by omega : ¬ ((d : Int) = 0))
 by_cases d1 : d = 1
 ·subst d1
  go_wp2_with fail
  refine (zar 3 [1001, -9223372036854775808, 5] [.int .i64 1001, .int .i64 (-9223372036854775808), .int .i64 5] rfl rfl rb (p + 100 + 1) _ _ (by omega) (by simp) (by simp) (by exact Lst.new hr2.lt _ _) (hr2.below (za _ _))).mono ?_
  rintro e w4 ⟨⟨x, hx, rfl⟩, hr4, ho4⟩
  have hx64 : I64 x := by simp at hx; unfold I64; omega
  have hV4 := (hV3.alloc (.cells #[.int .i64 1001, .int .i64 (-9223372036854775808), .int .i64 5] 3)).only ho4
  have hR4 := (hR3.alloc (.cells #[.int .i64 1001, .int .i64 (-9223372036854775808), .int .i64 5] 3)).only ho4
  have hL4 := (hL3.below (za _ (.cells #[.int .i64 1001, .int .i64 (-9223372036854775808), .int .i64 5] 3))).only ho4 (by omega)
  have hN4 := (hN3.alloc (.cells #[.int .i64 1001, .int .i64 (-9223372036854775808), .int .i64 5] 3)).trans ho4
  clear hV3 hR3 hL3 hN3 hr2 ho4 hx
  have k0 := hV4.2.2.1 7 _ rfl; have k1 := hV4.2.2.2 7
  go_upto_region 14 with fail
  have hV : Lst rb [.int .i64 y.kind, .string y.a.name, .slice a2 y.a.kids.length c2, .string y.b.name, .slice a4 y.b.kids.length c4, .slice a5 y.nums.length c5, .slice a6 y.times.length c6, .int .i64 x, .bool y.strict] V (w4.setCell ⟨V, 7, none⟩ (.int .i64 x)) := hV4.put (k := 7) (by simp) _
  have hRS : Lst rb [.int .i64 0, .string ⟨#[]⟩, .slice none 0 0, .string ⟨#[]⟩, .slice none 0 0, .slice none 0 0, .slice none 0 0, .int .i64 0, .bool false] (w.heap.size + 1) (w4.setCell ⟨V, 7, none⟩ (.int .i64 x)) := hR4.sets_other (b := V) (.inl (by omega)) [(7, .int .i64 x)]
  have AL := (hL4.setV [(7, .int .i64 x)]).bound hx64
  have hrr := Rdr.sets (b := V) (by omega) [(7, .int .i64 x)] hr4
  have hNW := Only.setsR (b := V) (by omega) [(7, .int .i64 x)] hN4
  have hsz := hNW.size
  simp only [zi] at AL hrr hNW hsz
  clear hV4 hR4 hL4 hN4 hr4 k0 k1
  generalize w4.setCell ⟨V, 7, none⟩ (.int .i64 x) = W5 at *
  have q0 := hV.2.2.1 0 _ rfl; have vc0 := hRS.2.2.1 0 _ rfl; have vf0 := hRS.2.2.2 0
  have q1 := hV.2.2.1 1 _ rfl; have vc1 := hRS.2.2.1 1 _ rfl; have vf1 := hRS.2.2.2 1
  have q2 := hV.2.2.1 2 _ rfl; have vc2 := hRS.2.2.1 2 _ rfl; have vf2 := hRS.2.2.2 2
  have q3 := hV.2.2.1 3 _ rfl; have vc3 := hRS.2.2.1 3 _ rfl; have vf3 := hRS.2.2.2 3
  have q4 := hV.2.2.1 4 _ rfl; have vc4 := hRS.2.2.1 4 _ rfl; have vf4 := hRS.2.2.2 4
  have q5 := hV.2.2.1 5 _ rfl; have vc5 := hRS.2.2.1 5 _ rfl; have vf5 := hRS.2.2.2 5
  have q6 := hV.2.2.1 6 _ rfl; have vc6 := hRS.2.2.1 6 _ rfl; have vf6 := hRS.2.2.2 6
  have q7 := hV.2.2.1 7 _ rfl; have vc7 := hRS.2.2.1 7 _ rfl; have vf7 := hRS.2.2.2 7
  have q8 := hV.2.2.1 8 _ rfl; have vc8 := hRS.2.2.1 8 _ rfl; have vf8 := hRS.2.2.2 8
  have A5 := AL.setLow (b := w.heap.size + 1) [(0, .int .i64 y.kind), (1, .string y.a.name), (2, .slice a2 y.a.kids.length c2), (3, .string y.b.name), (4, .slice a4 y.b.kids.length c4), (5, .slice a5 y.nums.length c5), (6, .slice a6 y.times.length c6), (7, .int .i64 x), (8, .bool y.strict)] (by omega)
  have O5 := Only.setsR (b := w.heap.size + 1) (by omega) [(0, .int .i64 y.kind), (1, .string y.a.name), (2, .slice a2 y.a.kids.length c2), (3, .string y.b.name), (4, .slice a4 y.b.kids.length c4), (5, .slice a5 y.nums.length c5), (6, .slice a6 y.times.length c6), (7, .int .i64 x), (8, .bool y.strict)] hNW
  have R9 := Rdr.sets (b := w.heap.size + 1) (by omega) [(0, .int .i64 y.kind), (1, .string y.a.name), (2, .slice a2 y.a.kids.length c2), (3, .string y.b.name), (4, .slice a4 y.b.kids.length c4), (5, .slice a5 y.nums.length c5), (6, .slice a6 y.times.length c6), (7, .int .i64 x), (8, .bool y.strict)] (hrr.mono (q := p + 200) (by (try simp only [pcap]); omega))
  have NS := zI (u := W5) (b := w.heap.size + 1) (.int .i64 y.kind) (.string y.a.name) (.slice a2 y.a.kids.length c2) (.string y.b.name) (.slice a4 y.b.kids.length c4) (.slice a5 y.nums.length c5) (.slice a6 y.times.length c6) (.int .i64 x) (.bool y.strict) (fun j hj => by
   rcases j with _ | _ | _ | _ | _ | _ | _ | _ | _ | j
   all_goals first | exact ⟨_, hRS.2.2.1 _ _ rfl⟩ | omega)
  clear hV hRS hrr hNW AL
  simp only [zi] at A5 O5 R9 NS
  obtain ⟨R0, R1, R2, R3, R4, R5, R6, R7, R8⟩ := NS
  obtain ⟨fz, hfz, hge⟩ := A5.rd
  go_wp2_with fail
  refine bodyPost_ret (v := .agg #[.int .i64 y.kind, .string y.a.name, .slice a2 y.a.kids.length c2, .string y.b.name, .slice a4 y.b.kids.length c4, .slice a5 y.nums.length c5, .slice a6 y.times.length c6, .int .i64 x, .bool y.strict]) (by simp [results, Tryz.results18, go_sem, R0, R1, R2, R3, R4, R5, R6, R7, R8]) rfl ?_
  exact ⟨⟨{ y with bound := x }, _, fz, ⟨ht.1, ht.2.1, ht.2.2.1, ht.2.2.2.1, ht.2.2.2.2.1, by have h6 := ht.2.2.2.2.2; rw [Atm.wtV_eq] at h6 ⊢; exact h6⟩, rfl, hfz, fun b hb => by have := hge b hb; omega⟩, R9, O5⟩
 have e1 : ((d : Int) == 1) = false := by simpa using (by omega : ¬ ((d : Int) = 1))
 by_cases d2 : d = 2
 ·subst d2
  go_wp2_with fail
  refine (l4Some_wt s _ sf rb (p + 100 + 1) _ (by omega) hfew hnice (by exact hrd3) hnr hr2).mono ?_
  rintro e w4 ⟨⟨t, kv, fo, hs, rfl, hnm, hown, hfo⟩, hr4, ho4⟩
  obtain ⟨ka, kc, hkv, hk1, hk2⟩ := hown.form
  rw [zdX] at hkv hk1
  subst hkv
  obtain ⟨fa, hra, hfa, _⟩ := hown.fresh hfo
  have hz3 := hN3.size
  have hrx : RdX w4 (w.heap.size + 1 + 1) V (.sl (t.kids.map Tm.cd)) (.slice ka t.kids.length kc) := ⟨fa, hra, fun b hb => by have := (hfa.2 b hb).1; have := hV3.2.1; omega⟩
  have hV4 := hV3.only ho4
  have hR4 := hR3.only ho4
  have hL4 := hL3.only ho4 (by omega)
  have hN4 := hN3.trans ho4
  clear hV3 hR3 hL3 hN3 hr2 ho4 hown hfo hra hfa
  have k0 := hV4.2.2.1 1 _ rfl; have k1 := hV4.2.2.2 1; have k2 := hV4.2.2.1 2 _ rfl; have k3 := hV4.2.2.2 2
  go_upto_region 14 with fail
  have hV5 : Lst rb [.int .i64 y.kind, .string t.name, .slice a2 y.a.kids.length c2, .string y.b.name, .slice a4 y.b.kids.length c4, .slice a5 y.nums.length c5, .slice a6 y.times.length c6, .int .i64 y.bound, .bool y.strict] V (w4.setCell ⟨V, 1, none⟩ (.string t.name)) := hV4.put (k := 1) (by simp) _
  have hV : Lst rb [.int .i64 y.kind, .string t.name, .slice ka t.kids.length kc, .string y.b.name, .slice a4 y.b.kids.length c4, .slice a5 y.nums.length c5, .slice a6 y.times.length c6, .int .i64 y.bound, .bool y.strict] V ((w4.setCell ⟨V, 1, none⟩ (.string t.name)).setCell ⟨V, 2, none⟩ (.slice ka t.kids.length kc)) := hV5.put (k := 2) (by simp) _
  have hRS : Lst rb [.int .i64 0, .string ⟨#[]⟩, .slice none 0 0, .string ⟨#[]⟩, .slice none 0 0, .slice none 0 0, .slice none 0 0, .int .i64 0, .bool false] (w.heap.size + 1) ((w4.setCell ⟨V, 1, none⟩ (.string t.name)).setCell ⟨V, 2, none⟩ (.slice ka t.kids.length kc)) := hR4.sets_other (b := V) (.inl (by omega)) [(1, .string t.name), (2, .slice ka t.kids.length kc)]
  have AL := (hL4.termA hnm hrx).setV [(1, .string t.name), (2, .slice ka t.kids.length kc)]
  have hrr := Rdr.sets (b := V) (by omega) [(1, .string t.name), (2, .slice ka t.kids.length kc)] hr4
  have hNW := Only.setsR (b := V) (by omega) [(1, .string t.name), (2, .slice ka t.kids.length kc)] hN4
  have hsz := hNW.size
  simp only [zi] at AL hrr hNW hsz
  clear hV4 hV5 hR4 hL4 hN4 hr4 k0 k1 k2 k3 hrx
  generalize (w4.setCell ⟨V, 1, none⟩ (.string t.name)).setCell ⟨V, 2, none⟩ (.slice ka t.kids.length kc) = W5 at *
  have q0 := hV.2.2.1 0 _ rfl; have vc0 := hRS.2.2.1 0 _ rfl; have vf0 := hRS.2.2.2 0
  have q1 := hV.2.2.1 1 _ rfl; have vc1 := hRS.2.2.1 1 _ rfl; have vf1 := hRS.2.2.2 1
  have q2 := hV.2.2.1 2 _ rfl; have vc2 := hRS.2.2.1 2 _ rfl; have vf2 := hRS.2.2.2 2
  have q3 := hV.2.2.1 3 _ rfl; have vc3 := hRS.2.2.1 3 _ rfl; have vf3 := hRS.2.2.2 3
  have q4 := hV.2.2.1 4 _ rfl; have vc4 := hRS.2.2.1 4 _ rfl; have vf4 := hRS.2.2.2 4
  have q5 := hV.2.2.1 5 _ rfl; have vc5 := hRS.2.2.1 5 _ rfl; have vf5 := hRS.2.2.2 5
  have q6 := hV.2.2.1 6 _ rfl; have vc6 := hRS.2.2.1 6 _ rfl; have vf6 := hRS.2.2.2 6
  have q7 := hV.2.2.1 7 _ rfl; have vc7 := hRS.2.2.1 7 _ rfl; have vf7 := hRS.2.2.2 7
  have q8 := hV.2.2.1 8 _ rfl; have vc8 := hRS.2.2.1 8 _ rfl; have vf8 := hRS.2.2.2 8
  have A5 := AL.setLow (b := w.heap.size + 1) [(0, .int .i64 y.kind), (1, .string t.name), (2, .slice ka t.kids.length kc), (3, .string y.b.name), (4, .slice a4 y.b.kids.length c4), (5, .slice a5 y.nums.length c5), (6, .slice a6 y.times.length c6), (7, .int .i64 y.bound), (8, .bool y.strict)] (by omega)
  have O5 := Only.setsR (b := w.heap.size + 1) (by omega) [(0, .int .i64 y.kind), (1, .string t.name), (2, .slice ka t.kids.length kc), (3, .string y.b.name), (4, .slice a4 y.b.kids.length c4), (5, .slice a5 y.nums.length c5), (6, .slice a6 y.times.length c6), (7, .int .i64 y.bound), (8, .bool y.strict)] hNW
  have R9 := Rdr.sets (b := w.heap.size + 1) (by omega) [(0, .int .i64 y.kind), (1, .string t.name), (2, .slice ka t.kids.length kc), (3, .string y.b.name), (4, .slice a4 y.b.kids.length c4), (5, .slice a5 y.nums.length c5), (6, .slice a6 y.times.length c6), (7, .int .i64 y.bound), (8, .bool y.strict)] (hrr.mono (q := p + 200) (by (try simp only [pcap]); omega))
  have NS := zI (u := W5) (b := w.heap.size + 1) (.int .i64 y.kind) (.string t.name) (.slice ka t.kids.length kc) (.string y.b.name) (.slice a4 y.b.kids.length c4) (.slice a5 y.nums.length c5) (.slice a6 y.times.length c6) (.int .i64 y.bound) (.bool y.strict) (fun j hj => by
   rcases j with _ | _ | _ | _ | _ | _ | _ | _ | _ | j
   all_goals first | exact ⟨_, hRS.2.2.1 _ _ rfl⟩ | omega)
  clear hV hRS hrr hNW AL
  simp only [zi] at A5 O5 R9 NS
  obtain ⟨R0, R1, R2, R3, R4, R5, R6, R7, R8⟩ := NS
  obtain ⟨fz, hfz, hge⟩ := A5.rd
  go_wp2_with fail
  refine bodyPost_ret (v := .agg #[.int .i64 y.kind, .string t.name, .slice ka t.kids.length kc, .string y.b.name, .slice a4 y.b.kids.length c4, .slice a5 y.nums.length c5, .slice a6 y.times.length c6, .int .i64 y.bound, .bool y.strict]) (by simp [results, Tryz.results18, go_sem, R0, R1, R2, R3, R4, R5, R6, R7, R8]) rfl ?_
  exact ⟨⟨{ y with a := t }, _, fz, ⟨by show t.size ≤ 1000; omega, ht.2.1, ht.2.2.1, ht.2.2.2.1, ht.2.2.2.2.1, by have h6 := few_rest hyf; have h7 := hs.2; rw [Atm.wtV_eq]; show wtV t.cd + (wtV y.b.cd + (y.nums.length + wtR (y.nums.map Tm.cd) + y.times.length)) ≤ 5000; omega⟩, rfl, hfz, fun b hb => by have := hge b hb; omega⟩, R9, O5⟩
 have e2 : ((d : Int) == 2) = false := by simpa using (by omega : ¬ ((d : Int) = 2))
 by_cases d3 : d = 3
 ·subst d3
  by_cases hl : 0 < y.times.length
  rotate_left
  ·have k0 := hV3.2.2.1 6 _ rfl
   go_upto_region 14 with fail
   have hV := hV3; have hRS := hR3; have AL := hL3; have hrr := hr2; have hNW := hN3; have hsz := hN3.size
   clear hV3 hR3 hL3 hN3 hr2 k0
   generalize w3 = W5 at *
   have q0 := hV.2.2.1 0 _ rfl; have vc0 := hRS.2.2.1 0 _ rfl; have vf0 := hRS.2.2.2 0
   have q1 := hV.2.2.1 1 _ rfl; have vc1 := hRS.2.2.1 1 _ rfl; have vf1 := hRS.2.2.2 1
   have q2 := hV.2.2.1 2 _ rfl; have vc2 := hRS.2.2.1 2 _ rfl; have vf2 := hRS.2.2.2 2
   have q3 := hV.2.2.1 3 _ rfl; have vc3 := hRS.2.2.1 3 _ rfl; have vf3 := hRS.2.2.2 3
   have q4 := hV.2.2.1 4 _ rfl; have vc4 := hRS.2.2.1 4 _ rfl; have vf4 := hRS.2.2.2 4
   have q5 := hV.2.2.1 5 _ rfl; have vc5 := hRS.2.2.1 5 _ rfl; have vf5 := hRS.2.2.2 5
   have q6 := hV.2.2.1 6 _ rfl; have vc6 := hRS.2.2.1 6 _ rfl; have vf6 := hRS.2.2.2 6
   have q7 := hV.2.2.1 7 _ rfl; have vc7 := hRS.2.2.1 7 _ rfl; have vf7 := hRS.2.2.2 7
   have q8 := hV.2.2.1 8 _ rfl; have vc8 := hRS.2.2.1 8 _ rfl; have vf8 := hRS.2.2.2 8
   have A5 := AL.setLow (b := w.heap.size + 1) [(0, .int .i64 y.kind), (1, .string y.a.name), (2, .slice a2 y.a.kids.length c2), (3, .string y.b.name), (4, .slice a4 y.b.kids.length c4), (5, .slice a5 y.nums.length c5), (6, .slice a6 y.times.length c6), (7, .int .i64 y.bound), (8, .bool y.strict)] (by omega)
   have O5 := Only.setsR (b := w.heap.size + 1) (by omega) [(0, .int .i64 y.kind), (1, .string y.a.name), (2, .slice a2 y.a.kids.length c2), (3, .string y.b.name), (4, .slice a4 y.b.kids.length c4), (5, .slice a5 y.nums.length c5), (6, .slice a6 y.times.length c6), (7, .int .i64 y.bound), (8, .bool y.strict)] hNW
   have R9 := Rdr.sets (b := w.heap.size + 1) (by omega) [(0, .int .i64 y.kind), (1, .string y.a.name), (2, .slice a2 y.a.kids.length c2), (3, .string y.b.name), (4, .slice a4 y.b.kids.length c4), (5, .slice a5 y.nums.length c5), (6, .slice a6 y.times.length c6), (7, .int .i64 y.bound), (8, .bool y.strict)] (hrr.mono (q := p + 200) (by (try simp only [pcap]); omega))
   have NS := zI (u := W5) (b := w.heap.size + 1) (.int .i64 y.kind) (.string y.a.name) (.slice a2 y.a.kids.length c2) (.string y.b.name) (.slice a4 y.b.kids.length c4) (.slice a5 y.nums.length c5) (.slice a6 y.times.length c6) (.int .i64 y.bound) (.bool y.strict) (fun j hj => by
    rcases j with _ | _ | _ | _ | _ | _ | _ | _ | _ | j
    all_goals first | exact ⟨_, hRS.2.2.1 _ _ rfl⟩ | omega)
   clear hV hRS hrr hNW AL
   simp only [zi] at A5 O5 R9 NS
   obtain ⟨R0, R1, R2, R3, R4, R5, R6, R7, R8⟩ := NS
   obtain ⟨fz, hfz, hge⟩ := A5.rd
   go_wp2_with fail
   refine bodyPost_ret (v := .agg #[.int .i64 y.kind, .string y.a.name, .slice a2 y.a.kids.length c2, .string y.b.name, .slice a4 y.b.kids.length c4, .slice a5 y.nums.length c5, .slice a6 y.times.length c6, .int .i64 y.bound, .bool y.strict]) (by simp [results, Tryz.results18, go_sem, R0, R1, R2, R3, R4, R5, R6, R7, R8]) rfl ?_
   exact ⟨⟨y, _, fz, ht, rfl, hfz, fun b hb => by have := hge b hb; omega⟩, R9, O5⟩
  ·have hO3 := hO1
   obtain ⟨g, rfl, hg1, hg2, hgc, hgz⟩ := hO3.o6.ints_form hl
   have k0 := hV3.2.2.1 6 _ rfl
   have hgV : g ≠ V := fun e => hoff.2.1 (by rw [← e]; rfl)
   go_upto_region 11 with fail
   refine Till.start (F := (fun U : World => Lst rb [.int .i64 y.kind, .string y.a.name, .slice a2 y.a.kids.length c2, .string y.b.name, .slice a4 y.b.kids.length c4, .slice a5 y.nums.length c5, .slice (some ⟨g, 0, none⟩) y.times.length c6, .int .i64 y.bound, .bool y.strict] V U)) (s0 := 6) (by kernel_rfl) ?_
   have hF : (fun U : World => Lst rb [.int .i64 y.kind, .string y.a.name, .slice a2 y.a.kids.length c2, .string y.b.name, .slice a4 y.b.kids.length c4, .slice a5 y.nums.length c5, .slice (some ⟨g, 0, none⟩) y.times.length c6, .int .i64 y.bound, .bool y.strict] V U) w3.drew := hV3
   have hR3' : Lst rb [.int .i64 0, .string ⟨#[]⟩, .slice none 0 0, .string ⟨#[]⟩, .slice none 0 0, .slice none 0 0, .slice none 0 0, .int .i64 0, .bool false] (w.heap.size + 1) w3.drew := hR3
   have hr3' : Rdr w3.drew rb (p + 100 + 1) := hr2
   have hN3' : Only [rb] w w3.drew := hN3.trans (Only.below (zd w3))
   have hO3' := hO3.below (zd w3)
   clear hO3 hO1 hV3 hR3 hr2 hN3 hL3 hgc hgz k0
   generalize w3.drew = v0 at *
   refine Till.take (i := 0) (v := (.pointer (some ⟨V, 6, none⟩))) rfl (by kernel_rfl) (by kernel_rfl) (by kernel_rfl) (fun _ _ _ h => h) (by kernel_rfl) (Or.inl ⟨by rfl, fun U hU => ?_⟩) hF ?_
   ·clear hU; go_simp
   try simp only [Act.put, zdK, zdL, zdM]
   refine Till.take (i := 1) (v := (.slice (some ⟨g, 0, none⟩) y.times.length c6)) rfl (by kernel_rfl) (by kernel_rfl) (by kernel_rfl) (fun _ _ _ h => h) (by kernel_rfl) (Or.inl ⟨by rfl, fun U hU => ?_⟩) hF ?_
   ·have u0 := hU.2.2.1 0 _ rfl; have u1 := hU.2.2.1 1 _ rfl; have u2 := hU.2.2.1 2 _ rfl; have u3 := hU.2.2.1 3 _ rfl; have u4 := hU.2.2.1 4 _ rfl; have u5 := hU.2.2.1 5 _ rfl; have u6 := hU.2.2.1 6 _ rfl; have u7 := hU.2.2.1 7 _ rfl; have u8 := hU.2.2.1 8 _ rfl; clear hU; go_simp
   try simp only [Act.put, zdK, zdL, zdM]
   refine Till.take (i := 2) (v := (.pointer (some ⟨rb, 0, none⟩))) rfl (by kernel_rfl) (by kernel_rfl) (by kernel_rfl) (fun _ _ _ h => h) (by kernel_rfl) (Or.inl ⟨by rfl, fun U hU => ?_⟩) hF ?_
   ·clear hU; go_simp
   try simp only [Act.put, zdK, zdL, zdM]
   refine Till.one (i := 3) (by kernel_rfl) rfl (fun K hK => ?_)
   go_simp
   have hl8 : Lst rb [.int .i64 0, .int .i64 51, .int .i64 (-9223372036854775808)] v0.heap.size (v0.alloc (.cells #[.int .i64 0, .int .i64 51, .int .i64 (-9223372036854775808)] 3)) := Lst.new hr3'.lt _ _
   replace hF : (fun U : World => Lst rb [.int .i64 y.kind, .string y.a.name, .slice a2 y.a.kids.length c2, .string y.b.name, .slice a4 y.b.kids.length c4, .slice a5 y.nums.length c5, .slice (some ⟨g, 0, none⟩) y.times.length c6, .int .i64 y.bound, .bool y.strict] V U) _ := hF.alloc (.cells #[.int .i64 0, .int .i64 51, .int .i64 (-9223372036854775808)] 3)
   replace hR3' := hR3'.alloc (.cells #[.int .i64 0, .int .i64 51, .int .i64 (-9223372036854775808)] 3)
   replace hr3' := hr3'.alloc (.cells #[.int .i64 0, .int .i64 51, .int .i64 (-9223372036854775808)] 3)
   replace hN3' := hN3'.alloc (.cells #[.int .i64 0, .int .i64 51, .int .i64 (-9223372036854775808)] 3)
   replace hO3' := hO3'.below (za _ (.cells #[.int .i64 0, .int .i64 51, .int .i64 (-9223372036854775808)] 3))
   generalize v0.alloc (.cells #[.int .i64 0, .int .i64 51, .int .i64 (-9223372036854775808)] 3) = v1 at *
   refine hK.out _ _ (fun _ => hF) ?_
   clear hK
   try simp only [Act.put, zdK, zdL, zdM]
   refine Till.one (i := 4) (by kernel_rfl) rfl (fun K hK => ?_)
   go_simp; go_at_call 11
   refine (zar 3 [0, 51, -9223372036854775808] [.int .i64 0, .int .i64 51, .int .i64 (-9223372036854775808)] rfl rfl rb (p + 100 + 1) _ _ (by omega) (by simp) (by simp) (by exact hl8) (by exact hr3')).mono ?_
   rintro e w4 ⟨⟨x, hx, rfl⟩, hr4, ho4⟩
   have hx64 : I64 x := by simp at hx; unfold I64; omega
   replace hF : (fun U : World => Lst rb [.int .i64 y.kind, .string y.a.name, .slice a2 y.a.kids.length c2, .string y.b.name, .slice a4 y.b.kids.length c4, .slice a5 y.nums.length c5, .slice (some ⟨g, 0, none⟩) y.times.length c6, .int .i64 y.bound, .bool y.strict] V U) w4 := hF.only ho4
   have hR4 := hR3'.only ho4
   have hN4 := hN3'.trans ho4
   have hO4 := hO3'.only ho4 (by omega)
   clear hR3' hr3' hN3' hO3' ho4 hx hl8
   refine hK.out _ _ (fun _ => hF) ?_
   clear hK
   try simp only [Act.put, zdK, zdL, zdM]
   refine Till.one (i := 5) (by kernel_rfl) rfl (fun K hK => ?_)
   go_simp
   refine hK.out _ _ (fun _ => hF) ?_
   clear hK
   try simp only [Act.put, zdK, zdL, zdM]
   obtain ⟨g', hgq, hg1', hg2', hgc, hgz⟩ := hO4.o6.ints_form hl
   obtain rfl : g = g' := by simpa using hgq
   clear hgq
   refine Till.one (i := 6) (by kernel_rfl) rfl (fun K hK => ?_)
   go_simp
   refine hK.out _ _ (fun h => absurd h (by decide)) ?_
   clear hK
   try simp only [Act.put, zdK, zdL, zdM]
   refine Till.done (by kernel_rfl) ?_ _
   have hV : Lst rb [.int .i64 y.kind, .string y.a.name, .slice a2 y.a.kids.length c2, .string y.b.name, .slice a4 y.b.kids.length c4, .slice a5 y.nums.length c5, .slice (some ⟨g, 0, none⟩) y.times.length c6, .int .i64 y.bound, .bool y.strict] V (w4.setCell ⟨g, 0, none⟩ (.int .i64 x)) := hF.sets_other (b := g) (by omega) [(0, .int .i64 x)]
   have hRS : Lst rb [.int .i64 0, .string ⟨#[]⟩, .slice none 0 0, .string ⟨#[]⟩, .slice none 0 0, .slice none 0 0, .slice none 0 0, .int .i64 0, .bool false] (w.heap.size + 1) (w4.setCell ⟨g, 0, none⟩ (.int .i64 x)) := hR4.sets_other (b := g) (.inl (by omega)) [(0, .int .i64 x)]
   have AL := hO4.setTime hoff hx64
   have hrr := Rdr.sets (b := g) (by omega) [(0, .int .i64 x)] hr4
   have hNW := Only.setsR (b := g) (by omega) [(0, .int .i64 x)] hN4
   have hsz := hNW.size
   simp only [zi] at hrr hNW hsz
   clear hF hR4 hN4 hr4 hO4 hgc hgz
   go_upto_region 14 with fail
   generalize w4.setCell ⟨g, 0, none⟩ (.int .i64 x) = W5 at *
   have q0 := hV.2.2.1 0 _ rfl; have vc0 := hRS.2.2.1 0 _ rfl; have vf0 := hRS.2.2.2 0
   have q1 := hV.2.2.1 1 _ rfl; have vc1 := hRS.2.2.1 1 _ rfl; have vf1 := hRS.2.2.2 1
   have q2 := hV.2.2.1 2 _ rfl; have vc2 := hRS.2.2.1 2 _ rfl; have vf2 := hRS.2.2.2 2
   have q3 := hV.2.2.1 3 _ rfl; have vc3 := hRS.2.2.1 3 _ rfl; have vf3 := hRS.2.2.2 3
   have q4 := hV.2.2.1 4 _ rfl; have vc4 := hRS.2.2.1 4 _ rfl; have vf4 := hRS.2.2.2 4
   have q5 := hV.2.2.1 5 _ rfl; have vc5 := hRS.2.2.1 5 _ rfl; have vf5 := hRS.2.2.2 5
   have q6 := hV.2.2.1 6 _ rfl; have vc6 := hRS.2.2.1 6 _ rfl; have vf6 := hRS.2.2.2 6
   have q7 := hV.2.2.1 7 _ rfl; have vc7 := hRS.2.2.1 7 _ rfl; have vf7 := hRS.2.2.2 7
   have q8 := hV.2.2.1 8 _ rfl; have vc8 := hRS.2.2.1 8 _ rfl; have vf8 := hRS.2.2.2 8
   have A5 := AL.setLow (b := w.heap.size + 1) [(0, .int .i64 y.kind), (1, .string y.a.name), (2, .slice a2 y.a.kids.length c2), (3, .string y.b.name), (4, .slice a4 y.b.kids.length c4), (5, .slice a5 y.nums.length c5), (6, .slice (some ⟨g, 0, none⟩) y.times.length c6), (7, .int .i64 y.bound), (8, .bool y.strict)] (by omega)
   have O5 := Only.setsR (b := w.heap.size + 1) (by omega) [(0, .int .i64 y.kind), (1, .string y.a.name), (2, .slice a2 y.a.kids.length c2), (3, .string y.b.name), (4, .slice a4 y.b.kids.length c4), (5, .slice a5 y.nums.length c5), (6, .slice (some ⟨g, 0, none⟩) y.times.length c6), (7, .int .i64 y.bound), (8, .bool y.strict)] hNW
   have R9 := Rdr.sets (b := w.heap.size + 1) (by omega) [(0, .int .i64 y.kind), (1, .string y.a.name), (2, .slice a2 y.a.kids.length c2), (3, .string y.b.name), (4, .slice a4 y.b.kids.length c4), (5, .slice a5 y.nums.length c5), (6, .slice (some ⟨g, 0, none⟩) y.times.length c6), (7, .int .i64 y.bound), (8, .bool y.strict)] (hrr.mono (q := p + 200) (by (try simp only [pcap]); omega))
   have NS := zI (u := W5) (b := w.heap.size + 1) (.int .i64 y.kind) (.string y.a.name) (.slice a2 y.a.kids.length c2) (.string y.b.name) (.slice a4 y.b.kids.length c4) (.slice a5 y.nums.length c5) (.slice (some ⟨g, 0, none⟩) y.times.length c6) (.int .i64 y.bound) (.bool y.strict) (fun j hj => by
    rcases j with _ | _ | _ | _ | _ | _ | _ | _ | _ | j
    all_goals first | exact ⟨_, hRS.2.2.1 _ _ rfl⟩ | omega)
   clear hV hRS hrr hNW AL
   simp only [zi] at A5 O5 R9 NS
   obtain ⟨R0, R1, R2, R3, R4, R5, R6, R7, R8⟩ := NS
   obtain ⟨fz, hfz, hge⟩ := A5.rd
   simp only [List.length_set] at hfz
   go_wp2_with fail
   refine bodyPost_ret (v := .agg #[.int .i64 y.kind, .string y.a.name, .slice a2 y.a.kids.length c2, .string y.b.name, .slice a4 y.b.kids.length c4, .slice a5 y.nums.length c5, .slice (some ⟨g, 0, none⟩) y.times.length c6, .int .i64 y.bound, .bool y.strict]) (by simp [results, Tryz.results18, go_sem, R0, R1, R2, R3, R4, R5, R6, R7, R8]) rfl ?_
   exact ⟨⟨{ y with times := y.times.set 0 x }, _, fz, ⟨ht.1, ht.2.1, ht.2.2.1, by simpa using ht.2.2.2.1, ht.2.2.2.2.1, by have h6 := ht.2.2.2.2.2; rw [Atm.wtV_eq] at h6 ⊢; simpa using h6⟩, rfl, hfz, fun b hb => by have := hge b hb; omega⟩, R9, O5⟩
 have e3 : ((d : Int) == 3) = false := by simpa using (by omega : ¬ ((d : Int) = 3))
 by_cases d4 : d = 4
 ·subst d4
  have hrd4 := hrd3
  go_upto_region 13 with fail
  refine Till.start (F := (fun U : World => Lst rb [.int .i64 y.kind, .string y.a.name, .slice a2 y.a.kids.length c2, .string y.b.name, .slice a4 y.b.kids.length c4, .slice a5 y.nums.length c5, .slice a6 y.times.length c6, .int .i64 y.bound, .bool y.strict] V U ∧ Lst rb [.slice a0 s.syms.length c0] w.heap.size U)) (s0 := 8) (by kernel_rfl) ?_
  have hF : (fun U : World => Lst rb [.int .i64 y.kind, .string y.a.name, .slice a2 y.a.kids.length c2, .string y.b.name, .slice a4 y.b.kids.length c4, .slice a5 y.nums.length c5, .slice a6 y.times.length c6, .int .i64 y.bound, .bool y.strict] V U ∧ Lst rb [.slice a0 s.syms.length c0] w.heap.size U) w3.drew := ⟨hV3, hX3⟩
  have hR3' : Lst rb [.int .i64 0, .string ⟨#[]⟩, .slice none 0 0, .string ⟨#[]⟩, .slice none 0 0, .slice none 0 0, .slice none 0 0, .int .i64 0, .bool false] (w.heap.size + 1) w3.drew := hR3
  have hr3' : Rdr w3.drew rb (p + 100 + 1) := hr2
  have hN3' : Only [rb] w w3.drew := hN3.trans (Only.below (zd w3))
  have hO3' := hO1.below (zd w3)
  have hrd4 : RdVs w3.drew s.cd [.slice a0 s.syms.length c0] sf := hrd3.below (zd w3)
  clear hO1 hV3 hR3 hr2 hN3 hL3 hX3 hrd3
  generalize w3.drew = v0 at *
  refine Till.take (i := 0) (v := (.pointer (some ⟨V, 5, none⟩))) rfl (by kernel_rfl) (by kernel_rfl) (by kernel_rfl) (fun _ _ _ h => h) (by kernel_rfl) (Or.inl ⟨by rfl, fun U hU => ?_⟩) hF ?_
  ·clear hU; go_simp
  try simp only [Act.put, zdK, zdL, zdM]
  refine Till.take (i := 1) (v := (.slice a5 y.nums.length c5)) rfl (by kernel_rfl) (by kernel_rfl) (by kernel_rfl) (fun _ _ _ h => h) (by kernel_rfl) (Or.inl ⟨by rfl, fun U hU => ?_⟩) hF ?_
  ·have u0 := hU.1.2.2.1 0 _ rfl; have u1 := hU.1.2.2.1 1 _ rfl; have u2 := hU.1.2.2.1 2 _ rfl; have u3 := hU.1.2.2.1 3 _ rfl; have u4 := hU.1.2.2.1 4 _ rfl; have u5 := hU.1.2.2.1 5 _ rfl; have u6 := hU.1.2.2.1 6 _ rfl; have u7 := hU.1.2.2.1 7 _ rfl; have u8 := hU.1.2.2.1 8 _ rfl; have ux := hU.2.2.2.1 0 _ rfl; clear hU; go_simp
  try simp only [Act.put, zdK, zdL, zdM]
  refine Till.take (i := 2) (v := (.pointer (some ⟨rb, 0, none⟩))) rfl (by kernel_rfl) (by kernel_rfl) (by kernel_rfl) (fun _ _ _ h => h) (by kernel_rfl) (Or.inl ⟨by rfl, fun U hU => ?_⟩) hF ?_
  ·clear hU; go_simp
  try simp only [Act.put, zdK, zdL, zdM]
  refine Till.take (i := 3) (v := (.agg #[.slice a0 s.syms.length c0])) rfl (by kernel_rfl) (by kernel_rfl) (by kernel_rfl) (fun _ _ _ h => h) (by kernel_rfl) (Or.inl ⟨by rfl, fun U hU => ?_⟩) hF ?_
  ·have u0 := hU.1.2.2.1 0 _ rfl; have u1 := hU.1.2.2.1 1 _ rfl; have u2 := hU.1.2.2.1 2 _ rfl; have u3 := hU.1.2.2.1 3 _ rfl; have u4 := hU.1.2.2.1 4 _ rfl; have u5 := hU.1.2.2.1 5 _ rfl; have u6 := hU.1.2.2.1 6 _ rfl; have u7 := hU.1.2.2.1 7 _ rfl; have u8 := hU.1.2.2.1 8 _ rfl; have ux := hU.2.2.2.1 0 _ rfl; clear hU; go_simp
  try simp only [Act.put, zdK, zdL, zdM]
  refine Till.one (i := 4) (by kernel_rfl) rfl (fun K hK => ?_)
  go_simp; go_at_call 33
  refine (zV 4 s _ sf _ _ rb (p + 100 + 1) _ (by omega) (by omega) (by omega) (by simp only [pcap]; omega) hfew hnice (by exact hrd4) hnr (by exact hr3')).mono ?_
  rintro e w4 ⟨⟨t, kv, fo, hs, rfl, hnm, hown, hfo⟩, hr4, ho4⟩
  have hvz := hN3'.size
  have hvV := hF.1.2.1
  replace hF : (fun U : World => Lst rb [.int .i64 y.kind, .string y.a.name, .slice a2 y.a.kids.length c2, .string y.b.name, .slice a4 y.b.kids.length c4, .slice a5 y.nums.length c5, .slice a6 y.times.length c6, .int .i64 y.bound, .bool y.strict] V U ∧ Lst rb [.slice a0 s.syms.length c0] w.heap.size U) w4 := ⟨hF.1.only ho4, hF.2.only ho4⟩
  have hR4 := hR3'.only ho4
  have hN4 := hN3'.trans ho4
  have hO4 := hO3'.only ho4 (by omega)
  obtain ⟨ka, kc, hkv, hk1, hk2⟩ := hown.form
  rw [zdX] at hkv hk1
  subst hkv
  obtain ⟨fa, hra, hfa, _⟩ := hown.fresh hfo
  have hfa' : ∀ b ∈ fa, w.heap.size + 1 + 1 ≤ b ∧ b ≠ V ∧ v0.heap.size ≤ b := fun b hb => by have := (hfa.2 b hb).1; omega
  have hna : ∀ b ∈ fa, (Value.slice a5 y.nums.length c5).ownBlock ≠ some b := fun b hb e => by have := (hfa' b hb).2.2; have := (hO3'.o5.block e).2; omega
  have hrt := Tm.close hnm hra
  clear hR3' hr3' hN3' hO3' ho4 hown hfo hfa hra hrd4
  refine hK.out _ _ (fun _ => hF) ?_
  clear hK
  try simp only [Act.put, zdK, zdL, zdM]
  refine Till.one (i := 5) (by kernel_rfl) rfl (fun K hK => ?_)
  go_simp
  have hcl : ∀ j u, ([.string t.name, .slice ka t.kids.length kc] : List Value)[j]? = some u → (w4.alloc (.cells #[.string t.name, .slice ka t.kids.length kc] 25)).cell? ((⟨w4.heap.size, 0, none⟩ : Addr).add j) = some u := by exact zp w4 [.string t.name, .slice ka t.kids.length kc] 25
  replace hF : (fun U : World => Lst rb [.int .i64 y.kind, .string y.a.name, .slice a2 y.a.kids.length c2, .string y.b.name, .slice a4 y.b.kids.length c4, .slice a5 y.nums.length c5, .slice a6 y.times.length c6, .int .i64 y.bound, .bool y.strict] V U ∧ Lst rb [.slice a0 s.syms.length c0] w.heap.size U) _ := ⟨hF.1.alloc (.cells #[.string t.name, .slice ka t.kids.length kc] 25), hF.2.alloc (.cells #[.string t.name, .slice ka t.kids.length kc] 25)⟩
  replace hR4 := hR4.alloc (.cells #[.string t.name, .slice ka t.kids.length kc] 25)
  replace hr4 := hr4.alloc (.cells #[.string t.name, .slice ka t.kids.length kc] 25)
  replace hN4 := hN4.alloc (.cells #[.string t.name, .slice ka t.kids.length kc] 25)
  replace hO4 := hO4.below (za _ (.cells #[.string t.name, .slice ka t.kids.length kc] 25))
  replace hrt := hrt.below (za _ (.cells #[.string t.name, .slice ka t.kids.length kc] 25))
  have hVl := hF.1.2.1
  generalize w4.alloc (.cells #[.string t.name, .slice ka t.kids.length kc] 25) = v1 at *
  refine hK.out _ _ (fun _ => hF) ?_
  clear hK
  try simp only [Act.put, zdK, zdL, zdM]
  refine Till.one (i := 6) (by kernel_rfl) rfl (fun K hK => ?_)
  refine zE zaz rfl _ _ rfl (w.heap.size + 1 + 1) _ _ _ rfl (by exact hO4.o5) ⟨w4.heap.size, 0, none⟩ 1 1 [t.cd] [.string t.name, .slice ka t.kids.length kc] fa rfl rfl (by simpa using hrt) (by simp [Tm.cd_len]) (by exact hcl) hna (by have h5 := hyf.2.2.1; rw [zdX]; omega) (by have h5 := hyf.2.2.1; rw [zdX]; omega) (by have := hN4.size; omega) ?_
  intro v' w5 hown5 hg5 hv5 hs5
  have AM := hO4.more (t := t) hoff hVl hg5 (by rw [zdV]; exact hown5) hv5 (fun b hb => by
   rcases zdS.1 hb with h | h
   ·exact ⟨hO4.fr b (.inr (.inr h)), hoff.2.2 b (.inr (.inr h))⟩
   ·exact ⟨(hfa' b h).1, (hfa' b h).2.1⟩)
  obtain ⟨ns, hns⟩ : ∃ ns, ns = y.nums ++ [t] := ⟨_, rfl⟩
  rw [← hns] at AM
  have hnl : ns.length ≤ 10 := by rw [hns, zdU]; have h5 := hyf.2.2.1; show _ + 1 ≤ 10; omega
  have hnu : ∀ u ∈ ns, u.size ≤ 1000 := fun u hu => by
   rw [hns] at hu
   rcases zdS.1 hu with h | h
   ·exact ht.2.2.2.2.1 u h
   ·rw [List.mem_singleton.1 h]; have := hs.1; simp only [pcap] at this; omega
  have hnw : wtV ({ y with nums := ns } : Atm).cd ≤ 5000 := by
   have h6 := zbl ns (fun u hu => by
    rw [hns] at hu
    rcases zdS.1 hu with h | h
    ·exact hyf.2.2.2.2 u h
    ·rw [List.mem_singleton.1 h]; exact ⟨by have := hs.1; simp only [pcap] at this; omega, hs.2⟩)
   have h7 : ns.length ≤ 6 := by rw [hns, zdU]; have h5 := hyf.2.2.1; show _ + 1 ≤ 6; omega
   have h8 := hyf.1.2; have h9 := hyf.2.1.2; have h10 := hyf.2.2.2.1; have h11 := hyf.2.2.1
   rw [Atm.wtV_eq]
   show wtV y.a.cd + (wtV y.b.cd + (ns.length + wtR (ns.map Tm.cd) + y.times.length)) ≤ 5000
   omega
  clear hns
  obtain ⟨e5, g5, rfl, AL5⟩ := AM
  have hrow : ∀ q, (Value.slice a5 y.nums.length c5).ownBlock = some q → w.heap.size + 1 + 1 ≤ q ∧ q ≠ V := fun q hq => ⟨(hO4.o5.block hq).1, fun e => hoff.1 (e ▸ hq)⟩
  replace hF : (fun U : World => Lst rb [.int .i64 y.kind, .string y.a.name, .slice a2 y.a.kids.length c2, .string y.b.name, .slice a4 y.b.kids.length c4, .slice a5 y.nums.length c5, .slice a6 y.times.length c6, .int .i64 y.bound, .bool y.strict] V U ∧ Lst rb [.slice a0 s.syms.length c0] w.heap.size U) w5 := ⟨hF.1.grownL hg5 (fun q hq => (hrow q hq).2), hF.2.grownL hg5 (fun q hq => by have := (hrow q hq).1; omega)⟩
  replace hR4 := hR4.grownL hg5 (fun q hq => by have := (hrow q hq).1; omega)
  replace hr4 := hr4.grown hg5 (fun q hq => by have := (hrow q hq).1; omega)
  replace hN4 := hN4.grown hg5 (fun q hq => by have := (hrow q hq).1; omega)
  clear hown5 hg5 hv5 hs5 hO4 hrt hcl hrow hna hfa'
  refine hK.out _ _ (fun _ => hF) ?_
  clear hK
  try simp only [Act.put, zdK, zdL, zdM]
  refine Till.one (i := 7) (by kernel_rfl) rfl (fun K hK => ?_)
  go_simp
  refine hK.out _ _ (fun _ => hF) ?_
  clear hK
  try simp only [Act.put, zdK, zdL, zdM]
  refine Till.one (i := 8) (by kernel_rfl) rfl (fun K hK => ?_)
  have k0 := hF.1.2.2.1 5 _ rfl; have k1 := hF.1.2.2.2 5
  go_simp
  refine hK.out _ _ (fun h => absurd h (by decide)) ?_
  clear hK
  try simp only [Act.put, zdK, zdL, zdM]
  refine Till.done (by kernel_rfl) ?_ _
  have hV : Lst rb [.int .i64 y.kind, .string y.a.name, .slice a2 y.a.kids.length c2, .string y.b.name, .slice a4 y.b.kids.length c4, .slice e5 ns.length g5, .slice a6 y.times.length c6, .int .i64 y.bound, .bool y.strict] V (w5.setCell ⟨V, 5, none⟩ (.slice e5 ns.length g5)) := hF.1.put (k := 5) (by simp) _
  have hRS : Lst rb [.int .i64 0, .string ⟨#[]⟩, .slice none 0 0, .string ⟨#[]⟩, .slice none 0 0, .slice none 0 0, .slice none 0 0, .int .i64 0, .bool false] (w.heap.size + 1) (w5.setCell ⟨V, 5, none⟩ (.slice e5 ns.length g5)) := hR4.sets_other (b := V) (.inl (by omega)) [(5, .slice e5 ns.length g5)]
  have AL := AL5.setV [(5, .slice e5 ns.length g5)]
  have hrr := Rdr.sets (b := V) (by omega) [(5, .slice e5 ns.length g5)] hr4
  have hNW := Only.setsR (b := V) (by omega) [(5, .slice e5 ns.length g5)] hN4
  have hsz := hNW.size
  simp only [zi] at AL hrr hNW hsz
  clear hF hR4 hN4 hr4 AL5 k0 k1
  go_upto_region 14 with fail
  generalize w5.setCell ⟨V, 5, none⟩ (.slice e5 ns.length g5) = W5 at *
  have q0 := hV.2.2.1 0 _ rfl; have vc0 := hRS.2.2.1 0 _ rfl; have vf0 := hRS.2.2.2 0
  have q1 := hV.2.2.1 1 _ rfl; have vc1 := hRS.2.2.1 1 _ rfl; have vf1 := hRS.2.2.2 1
  have q2 := hV.2.2.1 2 _ rfl; have vc2 := hRS.2.2.1 2 _ rfl; have vf2 := hRS.2.2.2 2
  have q3 := hV.2.2.1 3 _ rfl; have vc3 := hRS.2.2.1 3 _ rfl; have vf3 := hRS.2.2.2 3
  have q4 := hV.2.2.1 4 _ rfl; have vc4 := hRS.2.2.1 4 _ rfl; have vf4 := hRS.2.2.2 4
  have q5 := hV.2.2.1 5 _ rfl; have vc5 := hRS.2.2.1 5 _ rfl; have vf5 := hRS.2.2.2 5
  have q6 := hV.2.2.1 6 _ rfl; have vc6 := hRS.2.2.1 6 _ rfl; have vf6 := hRS.2.2.2 6
  have q7 := hV.2.2.1 7 _ rfl; have vc7 := hRS.2.2.1 7 _ rfl; have vf7 := hRS.2.2.2 7
  have q8 := hV.2.2.1 8 _ rfl; have vc8 := hRS.2.2.1 8 _ rfl; have vf8 := hRS.2.2.2 8
  have A5 := AL.setLow (b := w.heap.size + 1) [(0, .int .i64 y.kind), (1, .string y.a.name), (2, .slice a2 y.a.kids.length c2), (3, .string y.b.name), (4, .slice a4 y.b.kids.length c4), (5, .slice e5 ns.length g5), (6, .slice a6 y.times.length c6), (7, .int .i64 y.bound), (8, .bool y.strict)] (by omega)
  have O5 := Only.setsR (b := w.heap.size + 1) (by omega) [(0, .int .i64 y.kind), (1, .string y.a.name), (2, .slice a2 y.a.kids.length c2), (3, .string y.b.name), (4, .slice a4 y.b.kids.length c4), (5, .slice e5 ns.length g5), (6, .slice a6 y.times.length c6), (7, .int .i64 y.bound), (8, .bool y.strict)] hNW
  have R9 := Rdr.sets (b := w.heap.size + 1) (by omega) [(0, .int .i64 y.kind), (1, .string y.a.name), (2, .slice a2 y.a.kids.length c2), (3, .string y.b.name), (4, .slice a4 y.b.kids.length c4), (5, .slice e5 ns.length g5), (6, .slice a6 y.times.length c6), (7, .int .i64 y.bound), (8, .bool y.strict)] (hrr.mono (q := p + 200) (by (try simp only [pcap]); omega))
  have NS := zI (u := W5) (b := w.heap.size + 1) (.int .i64 y.kind) (.string y.a.name) (.slice a2 y.a.kids.length c2) (.string y.b.name) (.slice a4 y.b.kids.length c4) (.slice e5 ns.length g5) (.slice a6 y.times.length c6) (.int .i64 y.bound) (.bool y.strict) (fun j hj => by
   rcases j with _ | _ | _ | _ | _ | _ | _ | _ | _ | j
   all_goals first | exact ⟨_, hRS.2.2.1 _ _ rfl⟩ | omega)
  clear hV hRS hrr hNW AL
  simp only [zi] at A5 O5 R9 NS
  obtain ⟨R0, R1, R2, R3, R4, R5, R6, R7, R8⟩ := NS
  obtain ⟨fz, hfz, hge⟩ := A5.rd
  go_wp2_with fail
  refine bodyPost_ret (v := .agg #[.int .i64 y.kind, .string y.a.name, .slice a2 y.a.kids.length c2, .string y.b.name, .slice a4 y.b.kids.length c4, .slice e5 ns.length g5, .slice a6 y.times.length c6, .int .i64 y.bound, .bool y.strict]) (by simp [results, Tryz.results18, go_sem, R0, R1, R2, R3, R4, R5, R6, R7, R8]) rfl ?_
  exact ⟨⟨{ y with nums := ns }, _, fz, ⟨ht.1, ht.2.1, hnl, ht.2.2.2.1, hnu, hnw⟩, rfl, hfz, fun b hb => by have := hge b hb; omega⟩, R9, O5⟩
 have e4 : ((d : Int) == 4) = false := by simpa using (by omega : ¬ ((d : Int) = 4))
 go_upto_region 14 with fail
 have hV := hV3; have hRS := hR3; have AL := hL3; have hrr := hr2; have hNW := hN3; have hsz := hN3.size
 clear hV3 hR3 hL3 hN3 hr2
 generalize w3 = W5 at *
 have q0 := hV.2.2.1 0 _ rfl; have vc0 := hRS.2.2.1 0 _ rfl; have vf0 := hRS.2.2.2 0
 have q1 := hV.2.2.1 1 _ rfl; have vc1 := hRS.2.2.1 1 _ rfl; have vf1 := hRS.2.2.2 1
 have q2 := hV.2.2.1 2 _ rfl; have vc2 := hRS.2.2.1 2 _ rfl; have vf2 := hRS.2.2.2 2
 have q3 := hV.2.2.1 3 _ rfl; have vc3 := hRS.2.2.1 3 _ rfl; have vf3 := hRS.2.2.2 3
 have q4 := hV.2.2.1 4 _ rfl; have vc4 := hRS.2.2.1 4 _ rfl; have vf4 := hRS.2.2.2 4
 have q5 := hV.2.2.1 5 _ rfl; have vc5 := hRS.2.2.1 5 _ rfl; have vf5 := hRS.2.2.2 5
 have q6 := hV.2.2.1 6 _ rfl; have vc6 := hRS.2.2.1 6 _ rfl; have vf6 := hRS.2.2.2 6
 have q7 := hV.2.2.1 7 _ rfl; have vc7 := hRS.2.2.1 7 _ rfl; have vf7 := hRS.2.2.2 7
 have q8 := hV.2.2.1 8 _ rfl; have vc8 := hRS.2.2.1 8 _ rfl; have vf8 := hRS.2.2.2 8
 have A5 := AL.setLow (b := w.heap.size + 1) [(0, .int .i64 y.kind), (1, .string y.a.name), (2, .slice a2 y.a.kids.length c2), (3, .string y.b.name), (4, .slice a4 y.b.kids.length c4), (5, .slice a5 y.nums.length c5), (6, .slice a6 y.times.length c6), (7, .int .i64 y.bound), (8, .bool y.strict)] (by omega)
 have O5 := Only.setsR (b := w.heap.size + 1) (by omega) [(0, .int .i64 y.kind), (1, .string y.a.name), (2, .slice a2 y.a.kids.length c2), (3, .string y.b.name), (4, .slice a4 y.b.kids.length c4), (5, .slice a5 y.nums.length c5), (6, .slice a6 y.times.length c6), (7, .int .i64 y.bound), (8, .bool y.strict)] hNW
 have R9 := Rdr.sets (b := w.heap.size + 1) (by omega) [(0, .int .i64 y.kind), (1, .string y.a.name), (2, .slice a2 y.a.kids.length c2), (3, .string y.b.name), (4, .slice a4 y.b.kids.length c4), (5, .slice a5 y.nums.length c5), (6, .slice a6 y.times.length c6), (7, .int .i64 y.bound), (8, .bool y.strict)] (hrr.mono (q := p + 200) (by (try simp only [pcap]); omega))
 have NS := zI (u := W5) (b := w.heap.size + 1) (.int .i64 y.kind) (.string y.a.name) (.slice a2 y.a.kids.length c2) (.string y.b.name) (.slice a4 y.b.kids.length c4) (.slice a5 y.nums.length c5) (.slice a6 y.times.length c6) (.int .i64 y.bound) (.bool y.strict) (fun j hj => by
  rcases j with _ | _ | _ | _ | _ | _ | _ | _ | _ | j
  all_goals first | exact ⟨_, hRS.2.2.1 _ _ rfl⟩ | omega)
 clear hV hRS hrr hNW AL
 simp only [zi] at A5 O5 R9 NS
 obtain ⟨R0, R1, R2, R3, R4, R5, R6, R7, R8⟩ := NS
 obtain ⟨fz, hfz, hge⟩ := A5.rd
 go_wp2_with fail
 refine bodyPost_ret (v := .agg #[.int .i64 y.kind, .string y.a.name, .slice a2 y.a.kids.length c2, .string y.b.name, .slice a4 y.b.kids.length c4, .slice a5 y.nums.length c5, .slice a6 y.times.length c6, .int .i64 y.bound, .bool y.strict]) (by simp [results, Tryz.results18, go_sem, R0, R1, R2, R3, R4, R5, R6, R7, R8]) rfl ?_
 exact ⟨⟨y, _, fz, ht, rfl, hfz, fun b hb => by have := hge b hb; omega⟩, R9, O5⟩
end Go.Proofs.YtoehhbkhdddeeaaGreatDoor
end
