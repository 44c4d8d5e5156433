/- Parts of the proof: Open OpenB PutF RdrG RdrI. -/
import Derived.ChangeArms
import Derived.DataReads
import Derived.ProofKit
import Derived.OpenShut
import Derived.Test.YtbfinjiledfpcaaGreatPT1
import Derived.Test.YtbfinjiledfpcaaGreatPT3
import Derived.Test.YtbfinjiledfpcaaGreatPT11
import Derived.Test.YtbfinjiledfpcaaGreatPT10
import Derived.Test.YtbfinjiledfpcaaGreatPT8
import Derived.Test.YtbfinjiledfpcaaGreatPT12
import Derived.Test.YtbfinjiledfpcaaGreatPT14
namespace Go.Proofs.YtbfinjiledfpcaaGreat
open Go Go.RowKit Go.ChangeShapes Go.WideShapes
set_option linter.unusedVariables false
set_option linter.unusedSimpArgs false
theorem list1 {α : Type} {a b : α} (h : [a] = [b]) : a = b := by simpa using h
section
variable {H : Type} {enc : TypeId × Value → H} {P : Program} {w : World} {base : Nat} {spare : Nat → Bool} {held : Bool}
end
end Go.Proofs.YtbfinjiledfpcaaGreat
namespace Go.Proofs.YtbfinjiledfpcaaGreat
open Go Go.RowKit Go.ChangeShapes Go.WideShapes
set_option linter.unusedVariables false
set_option linter.unusedSimpArgs false
theorem rd_bytes {H : Type} {enc : TypeId × Value → H} {P : Program} {w : World} {base : Nat} {spare : Nat → Bool} {held : Bool} {t e fuel : Nat} {cs : List Value} {x : DataW H × List MemPlace}
  (ht : P.underlying t = some (.slice e)) (he : P.underlying e = some (.int .u8)) (hC : P.cellsOf e = 1) (h : DataW.trod enc P w base spare held fuel t cs = some x) : ∃ v, cs = [v] ∧ Byts w v := by
 rcases DataW.trod_slice ht h with ⟨rfl, _⟩ | ⟨a, len, cap, elems, rest, n, hn, rfl, _, _, hl, hm, hlen, hi, _, _⟩
 ·exact ⟨_, rfl, none, 0, 0, rfl, zgo _, by omega, .inl rfl⟩
 ·have hm' : cap ≤ 9223372036854775807 := by simpa [maxLen] using hm
  refine ⟨_, rfl, some a, len, cap, rfl, hl, hm', ?_⟩
  by_cases h0 : len = 0
  ·exact .inl h0
  ·have hcell : ∀ i, i < len → ∃ cs', cs'.length = 1 ∧ (∀ j, j < 1 → w.cell? ((a.add (i * 1)).add j) = cs'[j]?) ∧ ∃ x', DataW.trod enc P w base spare held n e cs' = some x' := by
    intro i hil; have h1 := hi i hil; rw [hC] at h1; have h2 : elems[i]? = some elems[i] := zgp (by omega); rw [h2, Option.bind_eq_some_iff] at h1; obtain ⟨cs', h3, h4⟩ := h1; obtain ⟨_, h5, h6⟩ := World.cells?_some h3; exact ⟨cs', h5, h6, _, h4⟩
   obtain ⟨ab, ao, asp⟩ := a
   have hsp : asp = none := by
    obtain ⟨cs', h5, h6, _⟩ := hcell 0 (by omega); have h7 := h6 0 (by omega); rw [zgp (by omega)] at h7; simp only [Nat.zero_mul, Addr.add, if_true] at h7
    cases asp with
    | none => rfl
    | some q =>
     simp only [World.cell?] at h7
     split at h7 <;> simp at h7
   subst hsp
   have hab : ab < w.heap.size := by
    obtain ⟨cs', h5, h6, _⟩ := hcell 0 (by omega); have h7 := h6 0 (by omega); rw [zgp (by omega)] at h7; simp only [Nat.zero_mul, Addr.add, if_true] at h7; exact World.block_lt_of_cell? w _ h7
   refine .inr ⟨ab, ao, rfl, hab, fun i hil => ?_⟩; obtain ⟨cs', h5, h6, x', h7⟩ := hcell i hil; obtain ⟨z, rfl, _, hw⟩ := DataW.trod_int he h7; have hb := bounds_u8 hw; refine ⟨z.toNat, by omega, ?_⟩; have h8 := h6 0 (by omega); simp only [Addr.add_lit, Nat.mul_one, Nat.add_zero, zgb] at h8; rw [h8, Int.toNat_of_nonneg (by omega)]
theorem open_Byts {H : Type} {enc : TypeId × Value → H} {w : World} {base : Nat} {spare : Nat → Bool} {held : Bool} (fuel : Nat) (cs : List Value) (x : DataW H × List MemPlace) (h : DataW.trod enc Tryz.prog w base spare held fuel 22 cs = some x) : ∃ v, cs = [v] ∧ Byts w v :=
 rd_bytes Tryz.underlying22 Tryz.underlying5 (by kernel_rfl) h
end Go.Proofs.YtbfinjiledfpcaaGreat
section
namespace Go.Proofs.YtbfinjiledfpcaaGreat
open Go Go.RowKit
set_option linter.unusedVariables false
set_option linter.unusedSimpArgs false
set_option maxRecDepth 100000
set_option maxHeartbeats 16000000
theorem Lst.grownL {u u' : World} {rb b : Nat} {vs : List Value} {row : Option Nat} (h : Lst rb vs b u) (hg : u.grownBy u' row) (hr : ∀ q, row = some q → q ≠ b) : Lst rb vs b u' := by
 have hn : row ≠ some b := fun e => hr b e rfl; exact ⟨h.1, zge h.2.1 hg.size, fun j x hx => zr hg (h.2.2.1 j x hx) hn, fun j => zH hg h.2.1 (h.2.2.2 j) hn⟩
theorem zfR (s : Sg) (vs : List Value) (sf : List Nat) (rb p : Nat) (w : World) (hp : p + 200 ≤ 1000000000) (hfew : s.few) (hnice : s.nice) (hrd : RdVs w s.cd vs sf) (hnr : rb ∉ sf) (hr : Rdr w rb p) :
  Calls Tryz.prog 77 #[.pointer (some ⟨rb, 0, none⟩), .agg vs.toArray] w fun e w' => DrawnA w e w' ∧ Rdr w' rb (p + 200) ∧ Only [rb] w w' := by
 obtain ⟨a0, c0, f0, rfl, rfl, m0⟩ := Sg.open hrd; have hlt := hr.lt; have hB2 : Below w.heap.size w ((w.alloc (.cells #[.slice a0 s.Y.length c0] 25)).alloc (.cells yZa 31)) := ((zgz _ _).alloc (zgo _) _).alloc (by simp) _; have hR0 : Lst rb yZl (w.heap.size + 1) ((w.alloc (.cells #[.slice a0 s.Y.length c0] 25)).alloc (.cells yZa 31)) := Lst.new1 hlt _ yZl 31; have hX0 : Lst rb [.slice a0 s.Y.length c0] w.heap.size ((w.alloc (.cells #[.slice a0 s.Y.length c0] 25)).alloc (.cells yZa 31)) := (Lst.new hlt [.slice a0 s.Y.length c0] 25).alloc _
 have hs0 : ((w.alloc (.cells #[.slice a0 s.Y.length c0] 25)).alloc (.cells yZa 31)).heap.size = w.heap.size + 1 + 1 := by simp
 go_enter Tryz.func77, Tryz.ntmps77; go_upto_region 1 with fail; generalize (w.alloc (.cells #[.slice a0 s.Y.length c0] 25)).alloc (.cells yZa 31) = W0 at *; have x0 := hX0.2.2.1 0 _ rfl; go_wp2_with fail; refine (zes s _ sf rb p _ (by omega) hfew hnice (by exact hrd.below hB2) hnr (hr.below hB2)).mono ?_; rintro e w1 ⟨⟨y, a2, c2, fA, a4, c4, fB, a5, c5, a6, c6, fn, hyf, rfl, AO⟩, hr1, ho1⟩; rw [hs0] at AO; have hoff := AO.off; have hL1 := AO.toL hoff; have hN1 : Only [rb] w w1 := (Only.below hB2).trans ho1; have hR1 := hR0.only ho1; have hX1 := hX0.only ho1; have hz1 := ho1.size; clear hR0 hX0 x0 ho1 hB2; have ht := hyf.tame; obtain ⟨V, hVe⟩ : ∃ V, V = w1.heap.size := ⟨_, rfl⟩
 have hVz : w.heap.size + 1 + 1 ≤ V := by omega
 clear hs0 hz1; go_upto_region 2 with fail
 have hV2 : Lst rb (yNl y a2 c2 a4 c4 a5 c5 a6 c6) V (w1.alloc (.cells (yNa y a2 c2 a4 c4 a5 c5 a6 c6) 31)) := by rw [hVe]; exact Lst.new hr1.lt _ _
 rw [← hVe] at hoff hL1; rw [← hVe]; have hR2 := hR1.alloc (.cells (yNa y a2 c2 a4 c4 a5 c5 a6 c6) 31); have hX2 := hX1.alloc (.cells (yNa y a2 c2 a4 c4 a5 c5 a6 c6) 31); have hL2 := hL1.below (zb _ (.cells (yNa y a2 c2 a4 c4 a5 c5 a6 c6) 31)); have hO2 := AO.below (zb _ (.cells (yNa y a2 c2 a4 c4 a5 c5 a6 c6) 31)); have hr2 := hr1.alloc (.cells (yNa y a2 c2 a4 c4 a5 c5 a6 c6) 31); have hN2 := hN1.alloc (.cells (yNa y a2 c2 a4 c4 a5 c5 a6 c6) 31); generalize w1.alloc (.cells (yNa y a2 c2 a4 c4 a5 c5 a6 c6) 31) = w2 at *; clear hVe hR1 hX1 hL1 AO hr1 hN1; go_wp2_with fail; refine (zS rb (p + 100) 80 _ (by omega) (by omega) (by omega) hr2).mono ?_; clear hr2; rintro e w3 ⟨⟨d, hd, rfl⟩, hr2, ho3⟩; have hV3 := hV2.only ho3; have hR3 := hR2.only ho3; have hX3 := hX2.only ho3; have hL3 := hL2.only ho3 (by omega); have hO1 := hO2.only ho3 (by omega); have hN3 := hN2.trans ho3; have hrd3 : RdVs w3 s.cd [.slice a0 s.Y.length c0] sf := hrd.only hN3 hnr; have x3 := hX3.2.2.1 0 _ rfl; clear hV2 hR2 hX2 hL2 hO2 hN2 ho3 hd
 by_cases d0 : d = 0
 ·subst d0
  go_wp2_with fail; refine (zaW 4 [0, 3, 1, 2] [.int .i64 0, .int .i64 3, .int .i64 1, .int .i64 2] rfl rfl rb (p + 100 + 1) _ _ (by omega) (by simp) (by simp) (by exact Lst.new hr2.lt _ _) (hr2.below (zb _ _))).mono ?_; rintro e w4 ⟨⟨x, hx, rfl⟩, hr4, ho4⟩
  have hx64 : I64 x := by simp at hx; unfold I64; omega
  have hV4 := (hV3.alloc (.cells #[.int .i64 0, .int .i64 3, .int .i64 1, .int .i64 2] 3)).only ho4; have hR4 := (hR3.alloc (.cells #[.int .i64 0, .int .i64 3, .int .i64 1, .int .i64 2] 3)).only ho4; have hL4 := (hL3.below (zb _ (.cells #[.int .i64 0, .int .i64 3, .int .i64 1, .int .i64 2] 3))).only ho4 (by omega); have hN4 := (hN3.alloc (.cells #[.int .i64 0, .int .i64 3, .int .i64 1, .int .i64 2] 3)).trans ho4; clear hV3 hR3 hL3 hN3 hr2 ho4 hx; have k0 := hV4.2.2.1 0 _ rfl; have k1 := hV4.2.2.2 0; go_upto_region 14 with fail; have hV : Lst rb [.int .i64 x, .string y.a.name, .slice a2 y.a.K.length c2, .string y.b.name, .slice a4 y.b.K.length c4, .slice a5 y.N.length c5, .slice a6 y.T.length c6, .int .i64 y.O, .bool y.C] V (w4.setCell ⟨V, 0, none⟩ (.int .i64 x)) := hV4.put (k := 0) (by simp) _; have hRS : Lst rb yZl (w.heap.size + 1) (w4.setCell ⟨V, 0, none⟩ (.int .i64 x)) := hR4.sets_other (b := V) (.inl (by omega)) [(0, .int .i64 x)]; have AL := (hL4.setV [(0, .int .i64 x)]).kind hx64; have hrr := Rdr.sets (b := V) (by omega) [(0, .int .i64 x)] hr4; have hNW := Only.setsR (b := V) (by omega) [(0, .int .i64 x)] hN4; have hsz := hNW.size; simp only [zi] at AL hrr hNW hsz; clear hV4 hR4 hL4 hN4 hr4 k0 k1; generalize w4.setCell ⟨V, 0, none⟩ (.int .i64 x) = W5 at *; obtain ⟨q0, q1, q2, q3, q4, q5, q6, q7, q8⟩ := yR9 hV.2.2.1 rfl; obtain ⟨vc0, vc1, vc2, vc3, vc4, vc5, vc6, vc7, vc8⟩ := yR9 hRS.2.2.1 rfl; obtain ⟨vf0, vf1, vf2, vf3, vf4, vf5, vf6, vf7, vf8⟩ := yQ9 hRS.2.2.2; have A5 := AL.setLow (b := w.heap.size + 1) [(0, .int .i64 x), (1, .string y.a.name), (2, .slice a2 y.a.K.length c2), (3, .string y.b.name), (4, .slice a4 y.b.K.length c4), (5, .slice a5 y.N.length c5), (6, .slice a6 y.T.length c6), (7, .int .i64 y.O), (8, .bool y.C)] (by omega); have O5 := Only.setsR (b := w.heap.size + 1) (by omega) [(0, .int .i64 x), (1, .string y.a.name), (2, .slice a2 y.a.K.length c2), (3, .string y.b.name), (4, .slice a4 y.b.K.length c4), (5, .slice a5 y.N.length c5), (6, .slice a6 y.T.length c6), (7, .int .i64 y.O), (8, .bool y.C)] hNW; have R9 := Rdr.sets (b := w.heap.size + 1) (by omega) [(0, .int .i64 x), (1, .string y.a.name), (2, .slice a2 y.a.K.length c2), (3, .string y.b.name), (4, .slice a4 y.b.K.length c4), (5, .slice a5 y.N.length c5), (6, .slice a6 y.T.length c6), (7, .int .i64 y.O), (8, .bool y.C)] (hrr.mono (q := p + 200) (by (try simp only [pcap]); omega))
  have NS := zal (u := W5) (b := w.heap.size + 1) (.int .i64 x) (.string y.a.name) (.slice a2 y.a.K.length c2) (.string y.b.name) (.slice a4 y.b.K.length c4) (.slice a5 y.N.length c5) (.slice a6 y.T.length c6) (.int .i64 y.O) (.bool y.C) (fun j hj => by
   rcases j with _ | _ | _ | _ | _ | _ | _ | _ | _ | j
   all_goals first | exact ⟨_, hRS.2.2.1 _ _ rfl⟩ | omega)
  clear hV hRS hrr hNW AL; simp only [zi] at A5 O5 R9 NS; obtain ⟨R0, R1, R2, R3, R4, R5, R6, R7, R8⟩ := NS; obtain ⟨fz, hfz, hge⟩ := A5.rd; go_wp2_with fail; refine bodyPost_ret (v := .agg #[.int .i64 x, .string y.a.name, .slice a2 y.a.K.length c2, .string y.b.name, .slice a4 y.b.K.length c4, .slice a5 y.N.length c5, .slice a6 y.T.length c6, .int .i64 y.O, .bool y.C]) (by simp [results, Tryz.results77, go_sem, R0, R1, R2, R3, R4, R5, R6, R7, R8]) rfl ?_; exact ⟨⟨{ y with kind := x }, _, fz, ⟨ht.1, ht.2.1, ht.2.2.1, ht.2.2.2.1, ht.2.2.2.2.1, by have h6 := ht.2.2.2.2.2; rw [Atm.wtV_eq] at h6 ⊢; exact h6⟩, rfl, hfz, fun b hb => by have := hge b hb; omega⟩, R9, O5⟩
 have e0 : ((d : Int) == 0) = false := by simpa using (by omega : ¬ ((d : Int) = 0))
 by_cases d1 : d = 1
 ·subst d1
  go_wp2_with fail; refine (zaW 3 [1001, -9223372036854775808, 5] [.int .i64 1001, .int .i64 (-9223372036854775808), .int .i64 5] rfl rfl rb (p + 100 + 1) _ _ (by omega) (by simp) (by simp) (by exact Lst.new hr2.lt _ _) (hr2.below (zb _ _))).mono ?_; rintro e w4 ⟨⟨x, hx, rfl⟩, hr4, ho4⟩
  have hx64 : I64 x := by simp at hx; unfold I64; omega
  have hV4 := (hV3.alloc (.cells #[.int .i64 1001, .int .i64 (-9223372036854775808), .int .i64 5] 3)).only ho4; have hR4 := (hR3.alloc (.cells #[.int .i64 1001, .int .i64 (-9223372036854775808), .int .i64 5] 3)).only ho4; have hL4 := (hL3.below (zb _ (.cells #[.int .i64 1001, .int .i64 (-9223372036854775808), .int .i64 5] 3))).only ho4 (by omega); have hN4 := (hN3.alloc (.cells #[.int .i64 1001, .int .i64 (-9223372036854775808), .int .i64 5] 3)).trans ho4; clear hV3 hR3 hL3 hN3 hr2 ho4 hx; have k0 := hV4.2.2.1 7 _ rfl; have k1 := hV4.2.2.2 7; go_upto_region 14 with fail; have hV : Lst rb [.int .i64 y.kind, .string y.a.name, .slice a2 y.a.K.length c2, .string y.b.name, .slice a4 y.b.K.length c4, .slice a5 y.N.length c5, .slice a6 y.T.length c6, .int .i64 x, .bool y.C] V (w4.setCell ⟨V, 7, none⟩ (.int .i64 x)) := hV4.put (k := 7) (by simp) _; have hRS : Lst rb yZl (w.heap.size + 1) (w4.setCell ⟨V, 7, none⟩ (.int .i64 x)) := hR4.sets_other (b := V) (.inl (by omega)) [(7, .int .i64 x)]; have AL := (hL4.setV [(7, .int .i64 x)]).O hx64; have hrr := Rdr.sets (b := V) (by omega) [(7, .int .i64 x)] hr4; have hNW := Only.setsR (b := V) (by omega) [(7, .int .i64 x)] hN4; have hsz := hNW.size; simp only [zi] at AL hrr hNW hsz; clear hV4 hR4 hL4 hN4 hr4 k0 k1; generalize w4.setCell ⟨V, 7, none⟩ (.int .i64 x) = W5 at *; obtain ⟨q0, q1, q2, q3, q4, q5, q6, q7, q8⟩ := yR9 hV.2.2.1 rfl; obtain ⟨vc0, vc1, vc2, vc3, vc4, vc5, vc6, vc7, vc8⟩ := yR9 hRS.2.2.1 rfl; obtain ⟨vf0, vf1, vf2, vf3, vf4, vf5, vf6, vf7, vf8⟩ := yQ9 hRS.2.2.2; have A5 := AL.setLow (b := w.heap.size + 1) [(0, .int .i64 y.kind), (1, .string y.a.name), (2, .slice a2 y.a.K.length c2), (3, .string y.b.name), (4, .slice a4 y.b.K.length c4), (5, .slice a5 y.N.length c5), (6, .slice a6 y.T.length c6), (7, .int .i64 x), (8, .bool y.C)] (by omega); have O5 := Only.setsR (b := w.heap.size + 1) (by omega) [(0, .int .i64 y.kind), (1, .string y.a.name), (2, .slice a2 y.a.K.length c2), (3, .string y.b.name), (4, .slice a4 y.b.K.length c4), (5, .slice a5 y.N.length c5), (6, .slice a6 y.T.length c6), (7, .int .i64 x), (8, .bool y.C)] hNW; have R9 := Rdr.sets (b := w.heap.size + 1) (by omega) [(0, .int .i64 y.kind), (1, .string y.a.name), (2, .slice a2 y.a.K.length c2), (3, .string y.b.name), (4, .slice a4 y.b.K.length c4), (5, .slice a5 y.N.length c5), (6, .slice a6 y.T.length c6), (7, .int .i64 x), (8, .bool y.C)] (hrr.mono (q := p + 200) (by (try simp only [pcap]); omega))
  have NS := zal (u := W5) (b := w.heap.size + 1) (.int .i64 y.kind) (.string y.a.name) (.slice a2 y.a.K.length c2) (.string y.b.name) (.slice a4 y.b.K.length c4) (.slice a5 y.N.length c5) (.slice a6 y.T.length c6) (.int .i64 x) (.bool y.C) (fun j hj => by
   rcases j with _ | _ | _ | _ | _ | _ | _ | _ | _ | j
   all_goals first | exact ⟨_, hRS.2.2.1 _ _ rfl⟩ | omega)
  clear hV hRS hrr hNW AL; simp only [zi] at A5 O5 R9 NS; obtain ⟨R0, R1, R2, R3, R4, R5, R6, R7, R8⟩ := NS; obtain ⟨fz, hfz, hge⟩ := A5.rd; go_wp2_with fail; refine bodyPost_ret (v := .agg #[.int .i64 y.kind, .string y.a.name, .slice a2 y.a.K.length c2, .string y.b.name, .slice a4 y.b.K.length c4, .slice a5 y.N.length c5, .slice a6 y.T.length c6, .int .i64 x, .bool y.C]) (by simp [results, Tryz.results77, go_sem, R0, R1, R2, R3, R4, R5, R6, R7, R8]) rfl ?_; exact ⟨⟨{ y with O := x }, _, fz, ⟨ht.1, ht.2.1, ht.2.2.1, ht.2.2.2.1, ht.2.2.2.2.1, by have h6 := ht.2.2.2.2.2; rw [Atm.wtV_eq] at h6 ⊢; exact h6⟩, rfl, hfz, fun b hb => by have := hge b hb; omega⟩, R9, O5⟩
 have e1 : ((d : Int) == 1) = false := by simpa using (by omega : ¬ ((d : Int) = 1))
 by_cases d2 : d = 2
 ·subst d2
  go_wp2_with fail; refine (l4Some_wt s _ sf rb (p + 100 + 1) _ (by omega) hfew hnice (by exact hrd3) hnr hr2).mono ?_; rintro e w4 ⟨⟨t, kv, fo, hs, rfl, hnm, hown, hfo⟩, hr4, ho4⟩; obtain ⟨ka, kc, hkv, hk1, hk2⟩ := hown.form; rw [zgl] at hkv hk1; subst hkv; obtain ⟨fa, hra, hfa, _⟩ := hown.fresh hfo; have hz3 := hN3.size; have hrx : RdX w4 (w.heap.size + 1 + 1) V (.sl (t.K.map Tm.cd)) (.slice ka t.K.length kc) := ⟨fa, hra, fun b hb => by have := (hfa.2 b hb).1; have := hV3.2.1; omega⟩; have hV4 := hV3.only ho4; have hR4 := hR3.only ho4; have hL4 := hL3.only ho4 (by omega); have hN4 := hN3.trans ho4; clear hV3 hR3 hL3 hN3 hr2 ho4 hown hfo hra hfa; have k0 := hV4.2.2.1 1 _ rfl; have k2 := hV4.2.2.1 2 _ rfl; have k1 := hV4.2.2.2 1; have k3 := hV4.2.2.2 2; go_upto_region 14 with fail; have hV5 : Lst rb [.int .i64 y.kind, .string t.name, .slice a2 y.a.K.length c2, .string y.b.name, .slice a4 y.b.K.length c4, .slice a5 y.N.length c5, .slice a6 y.T.length c6, .int .i64 y.O, .bool y.C] V (w4.setCell ⟨V, 1, none⟩ (.string t.name)) := hV4.put (k := 1) (by simp) _; have hV : Lst rb [.int .i64 y.kind, .string t.name, .slice ka t.K.length kc, .string y.b.name, .slice a4 y.b.K.length c4, .slice a5 y.N.length c5, .slice a6 y.T.length c6, .int .i64 y.O, .bool y.C] V ((w4.setCell ⟨V, 1, none⟩ (.string t.name)).setCell ⟨V, 2, none⟩ (.slice ka t.K.length kc)) := hV5.put (k := 2) (by simp) _; have hRS : Lst rb yZl (w.heap.size + 1) ((w4.setCell ⟨V, 1, none⟩ (.string t.name)).setCell ⟨V, 2, none⟩ (.slice ka t.K.length kc)) := hR4.sets_other (b := V) (.inl (by omega)) [(1, .string t.name), (2, .slice ka t.K.length kc)]; have AL := (hL4.termA hnm hrx).setV [(1, .string t.name), (2, .slice ka t.K.length kc)]; have hrr := Rdr.sets (b := V) (by omega) [(1, .string t.name), (2, .slice ka t.K.length kc)] hr4; have hNW := Only.setsR (b := V) (by omega) [(1, .string t.name), (2, .slice ka t.K.length kc)] hN4; have hsz := hNW.size; simp only [zi] at AL hrr hNW hsz; clear hV4 hV5 hR4 hL4 hN4 hr4 k0 k1 k2 k3 hrx; generalize (w4.setCell ⟨V, 1, none⟩ (.string t.name)).setCell ⟨V, 2, none⟩ (.slice ka t.K.length kc) = W5 at *; obtain ⟨q0, q1, q2, q3, q4, q5, q6, q7, q8⟩ := yR9 hV.2.2.1 rfl; obtain ⟨vc0, vc1, vc2, vc3, vc4, vc5, vc6, vc7, vc8⟩ := yR9 hRS.2.2.1 rfl; obtain ⟨vf0, vf1, vf2, vf3, vf4, vf5, vf6, vf7, vf8⟩ := yQ9 hRS.2.2.2; have A5 := AL.setLow (b := w.heap.size + 1) [(0, .int .i64 y.kind), (1, .string t.name), (2, .slice ka t.K.length kc), (3, .string y.b.name), (4, .slice a4 y.b.K.length c4), (5, .slice a5 y.N.length c5), (6, .slice a6 y.T.length c6), (7, .int .i64 y.O), (8, .bool y.C)] (by omega); have O5 := Only.setsR (b := w.heap.size + 1) (by omega) [(0, .int .i64 y.kind), (1, .string t.name), (2, .slice ka t.K.length kc), (3, .string y.b.name), (4, .slice a4 y.b.K.length c4), (5, .slice a5 y.N.length c5), (6, .slice a6 y.T.length c6), (7, .int .i64 y.O), (8, .bool y.C)] hNW; have R9 := Rdr.sets (b := w.heap.size + 1) (by omega) [(0, .int .i64 y.kind), (1, .string t.name), (2, .slice ka t.K.length kc), (3, .string y.b.name), (4, .slice a4 y.b.K.length c4), (5, .slice a5 y.N.length c5), (6, .slice a6 y.T.length c6), (7, .int .i64 y.O), (8, .bool y.C)] (hrr.mono (q := p + 200) (by (try simp only [pcap]); omega))
  have NS := zal (u := W5) (b := w.heap.size + 1) (.int .i64 y.kind) (.string t.name) (.slice ka t.K.length kc) (.string y.b.name) (.slice a4 y.b.K.length c4) (.slice a5 y.N.length c5) (.slice a6 y.T.length c6) (.int .i64 y.O) (.bool y.C) (fun j hj => by
   rcases j with _ | _ | _ | _ | _ | _ | _ | _ | _ | j
   all_goals first | exact ⟨_, hRS.2.2.1 _ _ rfl⟩ | omega)
  clear hV hRS hrr hNW AL; simp only [zi] at A5 O5 R9 NS; obtain ⟨R0, R1, R2, R3, R4, R5, R6, R7, R8⟩ := NS; obtain ⟨fz, hfz, hge⟩ := A5.rd; go_wp2_with fail; refine bodyPost_ret (v := .agg #[.int .i64 y.kind, .string t.name, .slice ka t.K.length kc, .string y.b.name, .slice a4 y.b.K.length c4, .slice a5 y.N.length c5, .slice a6 y.T.length c6, .int .i64 y.O, .bool y.C]) (by simp [results, Tryz.results77, go_sem, R0, R1, R2, R3, R4, R5, R6, R7, R8]) rfl ?_; exact ⟨⟨{ y with a := t }, _, fz, ⟨by show t.size ≤ 1000; omega, ht.2.1, ht.2.2.1, ht.2.2.2.1, ht.2.2.2.2.1, by have h6 := few_rest hyf; have h7 := hs.2; rw [Atm.wtV_eq]; show wtV t.cd + (wtV y.b.cd + (y.N.length + wtR (y.N.map Tm.cd) + y.T.length)) ≤ 5000; omega⟩, rfl, hfz, fun b hb => by have := hge b hb; omega⟩, R9, O5⟩
 have e2 : ((d : Int) == 2) = false := by simpa using (by omega : ¬ ((d : Int) = 2))
 by_cases d3 : d = 3
 ·subst d3
  by_cases hl : 0 < y.T.length
  rotate_left
  ·have k0 := hV3.2.2.1 6 _ rfl
   go_upto_region 14 with fail; have hV := hV3; have hRS := hR3; have AL := hL3; have hrr := hr2; have hNW := hN3; have hsz := hN3.size; clear hV3 hR3 hL3 hN3 hr2 k0; generalize w3 = W5 at *; obtain ⟨q0, q1, q2, q3, q4, q5, q6, q7, q8⟩ := yR9 hV.2.2.1 rfl; obtain ⟨vc0, vc1, vc2, vc3, vc4, vc5, vc6, vc7, vc8⟩ := yR9 hRS.2.2.1 rfl; obtain ⟨vf0, vf1, vf2, vf3, vf4, vf5, vf6, vf7, vf8⟩ := yQ9 hRS.2.2.2; have A5 := AL.setLow (b := w.heap.size + 1) (yNp y a2 c2 a4 c4 a5 c5 a6 c6) (by omega); have O5 := Only.setsR (b := w.heap.size + 1) (by omega) (yNp y a2 c2 a4 c4 a5 c5 a6 c6) hNW; have R9 := Rdr.sets (b := w.heap.size + 1) (by omega) (yNp y a2 c2 a4 c4 a5 c5 a6 c6) (hrr.mono (q := p + 200) (by (try simp only [pcap]); omega))
   have NS := zal (u := W5) (b := w.heap.size + 1) (.int .i64 y.kind) (.string y.a.name) (.slice a2 y.a.K.length c2) (.string y.b.name) (.slice a4 y.b.K.length c4) (.slice a5 y.N.length c5) (.slice a6 y.T.length c6) (.int .i64 y.O) (.bool y.C) (fun j hj => by
    rcases j with _ | _ | _ | _ | _ | _ | _ | _ | _ | j
    all_goals first | exact ⟨_, hRS.2.2.1 _ _ rfl⟩ | omega)
   clear hV hRS hrr hNW AL; simp only [zi] at A5 O5 R9 NS; obtain ⟨R0, R1, R2, R3, R4, R5, R6, R7, R8⟩ := NS; obtain ⟨fz, hfz, hge⟩ := A5.rd; go_wp2_with fail; refine bodyPost_ret (v := .agg (yNa y a2 c2 a4 c4 a5 c5 a6 c6)) (by simp [results, Tryz.results77, go_sem, R0, R1, R2, R3, R4, R5, R6, R7, R8]) rfl ?_; exact ⟨⟨y, _, fz, ht, rfl, hfz, fun b hb => by have := hge b hb; omega⟩, R9, O5⟩
  ·have hO3 := hO1
   obtain ⟨g, rfl, hg1, hg2, hgc, hgz⟩ := hO3.o6.ints_form hl; have k0 := hV3.2.2.1 6 _ rfl; have hgV : g ≠ V := fun e => hoff.2.1 (by rw [← e]; rfl); go_upto_region 11 with fail; refine Till.start (F := (fun U : World => Lst rb (yNl y a2 c2 a4 c4 a5 c5 (some ⟨g, 0, none⟩) c6) V U)) (s0 := 6) (by kernel_rfl) ?_; have hF : (fun U : World => Lst rb (yNl y a2 c2 a4 c4 a5 c5 (some ⟨g, 0, none⟩) c6) V U) w3.drew := hV3; have hR3' : Lst rb yZl (w.heap.size + 1) w3.drew := hR3; have hr3' : Rdr w3.drew rb (p + 100 + 1) := hr2; have hN3' : Only [rb] w w3.drew := hN3.trans (Only.below (zj w3)); have hO3' := hO3.below (zj w3); clear hO3 hO1 hV3 hR3 hr2 hN3 hL3 hgc hgz k0; generalize w3.drew = v0 at *; refine Till.take (i := 0) (v := (.pointer (some ⟨V, 6, none⟩))) rfl (by kernel_rfl) (by kernel_rfl) (by kernel_rfl) (fun _ _ _ h => h) (by kernel_rfl) (Or.inl ⟨by rfl, fun U hU => ?_⟩) hF ?_
   ·clear hU; go_simp
   try simp only [zgB]
   refine Till.take (i := 1) (v := (.slice (some ⟨g, 0, none⟩) y.T.length c6)) rfl (by kernel_rfl) (by kernel_rfl) (by kernel_rfl) (fun _ _ _ h => h) (by kernel_rfl) (Or.inl ⟨by rfl, fun U hU => ?_⟩) hF ?_
   ·obtain ⟨u0, u1, u2, u3, u4, u5, u6, u7, u8⟩ := yR9 hU.2.2.1 rfl; clear hU; go_simp
   try simp only [zgB]
   refine Till.take (i := 2) (v := (.pointer (some ⟨rb, 0, none⟩))) rfl (by kernel_rfl) (by kernel_rfl) (by kernel_rfl) (fun _ _ _ h => h) (by kernel_rfl) (Or.inl ⟨by rfl, fun U hU => ?_⟩) hF ?_
   ·clear hU; go_simp
   try simp only [zgB]
   refine Till.one (i := 3) (by kernel_rfl) rfl (fun K hK => ?_); go_simp; have hl8 : Lst rb [.int .i64 0, .int .i64 51, .int .i64 (-9223372036854775808)] v0.heap.size (v0.alloc (.cells #[.int .i64 0, .int .i64 51, .int .i64 (-9223372036854775808)] 3)) := Lst.new hr3'.lt _ _; replace hF : (fun U : World => Lst rb (yNl y a2 c2 a4 c4 a5 c5 (some ⟨g, 0, none⟩) c6) V U) _ := hF.alloc (.cells #[.int .i64 0, .int .i64 51, .int .i64 (-9223372036854775808)] 3); replace hR3' := hR3'.alloc (.cells #[.int .i64 0, .int .i64 51, .int .i64 (-9223372036854775808)] 3); replace hr3' := hr3'.alloc (.cells #[.int .i64 0, .int .i64 51, .int .i64 (-9223372036854775808)] 3); replace hN3' := hN3'.alloc (.cells #[.int .i64 0, .int .i64 51, .int .i64 (-9223372036854775808)] 3); replace hO3' := hO3'.below (zb _ (.cells #[.int .i64 0, .int .i64 51, .int .i64 (-9223372036854775808)] 3)); generalize v0.alloc (.cells #[.int .i64 0, .int .i64 51, .int .i64 (-9223372036854775808)] 3) = v1 at *; refine hK.out _ _ (fun _ => hF) ?_; clear hK
   try simp only [zgB]
   refine Till.one (i := 4) (by kernel_rfl) rfl (fun K hK => ?_); go_simp; go_at_call 71; refine (zaW 3 [0, 51, -9223372036854775808] [.int .i64 0, .int .i64 51, .int .i64 (-9223372036854775808)] rfl rfl rb (p + 100 + 1) _ _ (by omega) (by simp) (by simp) (by exact hl8) (by exact hr3')).mono ?_; rintro e w4 ⟨⟨x, hx, rfl⟩, hr4, ho4⟩
   have hx64 : I64 x := by simp at hx; unfold I64; omega
   replace hF : (fun U : World => Lst rb (yNl y a2 c2 a4 c4 a5 c5 (some ⟨g, 0, none⟩) c6) V U) w4 := hF.only ho4; have hR4 := hR3'.only ho4; have hN4 := hN3'.trans ho4; have hO4 := hO3'.only ho4 (by omega); clear hR3' hr3' hN3' hO3' ho4 hx hl8; refine hK.out _ _ (fun _ => hF) ?_; clear hK
   try simp only [zgB]
   refine Till.one (i := 5) (by kernel_rfl) rfl (fun K hK => ?_); go_simp; refine hK.out _ _ (fun _ => hF) ?_; clear hK
   try simp only [zgB]
   obtain ⟨g', hgq, hg1', hg2', hgc, hgz⟩ := hO4.o6.ints_form hl
   obtain rfl : g = g' := by simpa using hgq
   clear hgq; refine Till.one (i := 6) (by kernel_rfl) rfl (fun K hK => ?_); go_simp; refine hK.out _ _ (fun h => absurd h (by decide)) ?_; clear hK
   try simp only [zgB]
   refine Till.done (by kernel_rfl) ?_ _; have hV : Lst rb (yNl y a2 c2 a4 c4 a5 c5 (some ⟨g, 0, none⟩) c6) V (w4.setCell ⟨g, 0, none⟩ (.int .i64 x)) := hF.sets_other (b := g) (by omega) [(0, .int .i64 x)]; have hRS : Lst rb yZl (w.heap.size + 1) (w4.setCell ⟨g, 0, none⟩ (.int .i64 x)) := hR4.sets_other (b := g) (.inl (by omega)) [(0, .int .i64 x)]; have AL := hO4.setTime hoff hx64; have hrr := Rdr.sets (b := g) (by omega) [(0, .int .i64 x)] hr4; have hNW := Only.setsR (b := g) (by omega) [(0, .int .i64 x)] hN4; have hsz := hNW.size; simp only [zi] at hrr hNW hsz; clear hF hR4 hN4 hr4 hO4 hgc hgz; go_upto_region 14 with fail; generalize w4.setCell ⟨g, 0, none⟩ (.int .i64 x) = W5 at *; obtain ⟨q0, q1, q2, q3, q4, q5, q6, q7, q8⟩ := yR9 hV.2.2.1 rfl; obtain ⟨vc0, vc1, vc2, vc3, vc4, vc5, vc6, vc7, vc8⟩ := yR9 hRS.2.2.1 rfl; obtain ⟨vf0, vf1, vf2, vf3, vf4, vf5, vf6, vf7, vf8⟩ := yQ9 hRS.2.2.2; have A5 := AL.setLow (b := w.heap.size + 1) (yNp y a2 c2 a4 c4 a5 c5 (some ⟨g, 0, none⟩) c6) (by omega); have O5 := Only.setsR (b := w.heap.size + 1) (by omega) (yNp y a2 c2 a4 c4 a5 c5 (some ⟨g, 0, none⟩) c6) hNW; have R9 := Rdr.sets (b := w.heap.size + 1) (by omega) (yNp y a2 c2 a4 c4 a5 c5 (some ⟨g, 0, none⟩) c6) (hrr.mono (q := p + 200) (by (try simp only [pcap]); omega))
   have NS := zal (u := W5) (b := w.heap.size + 1) (.int .i64 y.kind) (.string y.a.name) (.slice a2 y.a.K.length c2) (.string y.b.name) (.slice a4 y.b.K.length c4) (.slice a5 y.N.length c5) (.slice (some ⟨g, 0, none⟩) y.T.length c6) (.int .i64 y.O) (.bool y.C) (fun j hj => by
    rcases j with _ | _ | _ | _ | _ | _ | _ | _ | _ | j
    all_goals first | exact ⟨_, hRS.2.2.1 _ _ rfl⟩ | omega)
   clear hV hRS hrr hNW AL; simp only [zi] at A5 O5 R9 NS; obtain ⟨R0, R1, R2, R3, R4, R5, R6, R7, R8⟩ := NS; obtain ⟨fz, hfz, hge⟩ := A5.rd; simp only [yNl, yNa, List.length_set] at hfz; go_wp2_with fail; refine bodyPost_ret (v := .agg (yNa y a2 c2 a4 c4 a5 c5 (some ⟨g, 0, none⟩) c6)) (by simp [results, Tryz.results77, go_sem, R0, R1, R2, R3, R4, R5, R6, R7, R8]) rfl ?_; exact ⟨⟨{ y with T := y.T.set 0 x }, _, fz, ⟨ht.1, ht.2.1, ht.2.2.1, by simpa using ht.2.2.2.1, ht.2.2.2.2.1, by have h6 := ht.2.2.2.2.2; rw [Atm.wtV_eq] at h6 ⊢; simpa using h6⟩, rfl, hfz, fun b hb => by have := hge b hb; omega⟩, R9, O5⟩
 have e3 : ((d : Int) == 3) = false := by simpa using (by omega : ¬ ((d : Int) = 3))
 by_cases d4 : d = 4
 ·subst d4
  have hrd4 := hrd3; go_upto_region 13 with fail; refine Till.start (F := (fun U : World => Lst rb (yNl y a2 c2 a4 c4 a5 c5 a6 c6) V U ∧ Lst rb [.slice a0 s.Y.length c0] w.heap.size U)) (s0 := 8) (by kernel_rfl) ?_; have hF : (fun U : World => Lst rb (yNl y a2 c2 a4 c4 a5 c5 a6 c6) V U ∧ Lst rb [.slice a0 s.Y.length c0] w.heap.size U) w3.drew := ⟨hV3, hX3⟩; have hR3' : Lst rb yZl (w.heap.size + 1) w3.drew := hR3; have hr3' : Rdr w3.drew rb (p + 100 + 1) := hr2; have hN3' : Only [rb] w w3.drew := hN3.trans (Only.below (zj w3)); have hO3' := hO1.below (zj w3); have hrd4 : RdVs w3.drew s.cd [.slice a0 s.Y.length c0] sf := hrd3.below (zj w3); clear hO1 hV3 hR3 hr2 hN3 hL3 hX3 hrd3; generalize w3.drew = v0 at *; refine Till.take (i := 0) (v := (.pointer (some ⟨V, 5, none⟩))) rfl (by kernel_rfl) (by kernel_rfl) (by kernel_rfl) (fun _ _ _ h => h) (by kernel_rfl) (Or.inl ⟨by rfl, fun U hU => ?_⟩) hF ?_
  ·clear hU; go_simp
  try simp only [zgB]
  refine Till.take (i := 1) (v := (.slice a5 y.N.length c5)) rfl (by kernel_rfl) (by kernel_rfl) (by kernel_rfl) (fun _ _ _ h => h) (by kernel_rfl) (Or.inl ⟨by rfl, fun U hU => ?_⟩) hF ?_
  ·obtain ⟨u0, u1, u2, u3, u4, u5, u6, u7, u8⟩ := yR9 hU.1.2.2.1 rfl; have ux := hU.2.2.2.1 0 _ rfl; clear hU; go_simp
  try simp only [zgB]
  refine Till.take (i := 2) (v := (.pointer (some ⟨rb, 0, none⟩))) rfl (by kernel_rfl) (by kernel_rfl) (by kernel_rfl) (fun _ _ _ h => h) (by kernel_rfl) (Or.inl ⟨by rfl, fun U hU => ?_⟩) hF ?_
  ·clear hU; go_simp
  try simp only [zgB]
  refine Till.take (i := 3) (v := (.agg #[.slice a0 s.Y.length c0])) rfl (by kernel_rfl) (by kernel_rfl) (by kernel_rfl) (fun _ _ _ h => h) (by kernel_rfl) (Or.inl ⟨by rfl, fun U hU => ?_⟩) hF ?_
  ·obtain ⟨u0, u1, u2, u3, u4, u5, u6, u7, u8⟩ := yR9 hU.1.2.2.1 rfl; have ux := hU.2.2.2.1 0 _ rfl; clear hU; go_simp
  try simp only [zgB]
  refine Till.one (i := 4) (by kernel_rfl) rfl (fun K hK => ?_); go_simp; go_at_call 110; refine (zaB 4 s _ sf _ _ rb (p + 100 + 1) _ (by omega) (by omega) (by omega) (by simp only [pcap]; omega) hfew hnice (by exact hrd4) hnr (by exact hr3')).mono ?_; rintro e w4 ⟨⟨t, kv, fo, hs, rfl, hnm, hown, hfo⟩, hr4, ho4⟩; have hvz := hN3'.size; have hvV := hF.1.2.1; replace hF : (fun U : World => Lst rb (yNl y a2 c2 a4 c4 a5 c5 a6 c6) V U ∧ Lst rb [.slice a0 s.Y.length c0] w.heap.size U) w4 := ⟨hF.1.only ho4, hF.2.only ho4⟩; have hR4 := hR3'.only ho4; have hN4 := hN3'.trans ho4; have hO4 := hO3'.only ho4 (by omega); obtain ⟨ka, kc, hkv, hk1, hk2⟩ := hown.form; rw [zgl] at hkv hk1; subst hkv; obtain ⟨fa, hra, hfa, _⟩ := hown.fresh hfo
  have hfa' : ∀ b ∈ fa, w.heap.size + 1 + 1 ≤ b ∧ b ≠ V ∧ v0.heap.size ≤ b := fun b hb => by have := (hfa.2 b hb).1; omega
  have hna : ∀ b ∈ fa, (Value.slice a5 y.N.length c5).ownBlock ≠ some b := fun b hb e => by have := (hfa' b hb).2.2; have := (hO3'.o5.block e).2; omega
  have hrt := Tm.close hnm hra; clear hR3' hr3' hN3' hO3' ho4 hown hfo hfa hra hrd4; refine hK.out _ _ (fun _ => hF) ?_; clear hK
  try simp only [zgB]
  refine Till.one (i := 5) (by kernel_rfl) rfl (fun K hK => ?_); go_simp
  have hcl : ∀ j u, ([.string t.name, .slice ka t.K.length kc] : List Value)[j]? = some u → (w4.alloc (.cells #[.string t.name, .slice ka t.K.length kc] 28)).cell? ((⟨w4.heap.size, 0, none⟩ : Addr).add j) = some u := by exact zq w4 [.string t.name, .slice ka t.K.length kc] 28
  replace hF : (fun U : World => Lst rb (yNl y a2 c2 a4 c4 a5 c5 a6 c6) V U ∧ Lst rb [.slice a0 s.Y.length c0] w.heap.size U) _ := ⟨hF.1.alloc (.cells #[.string t.name, .slice ka t.K.length kc] 28), hF.2.alloc (.cells #[.string t.name, .slice ka t.K.length kc] 28)⟩; replace hR4 := hR4.alloc (.cells #[.string t.name, .slice ka t.K.length kc] 28); replace hr4 := hr4.alloc (.cells #[.string t.name, .slice ka t.K.length kc] 28); replace hN4 := hN4.alloc (.cells #[.string t.name, .slice ka t.K.length kc] 28); replace hO4 := hO4.below (zb _ (.cells #[.string t.name, .slice ka t.K.length kc] 28)); replace hrt := hrt.below (zb _ (.cells #[.string t.name, .slice ka t.K.length kc] 28)); have hVl := hF.1.2.1; generalize w4.alloc (.cells #[.string t.name, .slice ka t.K.length kc] 28) = v1 at *; refine hK.out _ _ (fun _ => hF) ?_; clear hK
  try simp only [zgB]
  refine Till.one (i := 6) (by kernel_rfl) rfl (fun K hK => ?_); refine zO zaU rfl _ _ rfl (w.heap.size + 1 + 1) _ _ _ rfl (by exact hO4.o5) ⟨w4.heap.size, 0, none⟩ 1 1 [t.cd] [.string t.name, .slice ka t.K.length kc] fa rfl rfl (by simpa using hrt) (by simp [Tm.cd_len]) (by exact hcl) hna (by have h5 := hyf.2.2.1; rw [zgl]; omega) (by have h5 := hyf.2.2.1; rw [zgl]; omega) (by have := hN4.size; omega) ?_; intro v' w5 hown5 hg5 hv5 hs5
  have AM := hO4.more (t := t) hoff hVl hg5 (by rw [zgj]; exact hown5) hv5 (fun b hb => by
   rcases zgg.1 hb with h | h
   ·exact ⟨hO4.fr b (.inr (.inr h)), hoff.2.2 b (.inr (.inr h))⟩
   ·exact ⟨(hfa' b h).1, (hfa' b h).2.1⟩)
  obtain ⟨ns, hns⟩ : ∃ ns, ns = y.N ++ [t] := ⟨_, rfl⟩; rw [← hns] at AM
  have hnl : ns.length ≤ 10 := by rw [hns, zgi]; have h5 := hyf.2.2.1; show _ + 1 ≤ 10; omega
  have hnu : ∀ u ∈ ns, u.size ≤ 1000 := fun u hu => by
   rw [hns] at hu
   rcases zgg.1 hu with h | h
   ·exact ht.2.2.2.2.1 u h
   ·rw [List.mem_singleton.1 h]; have := hs.1; simp only [pcap] at this; omega
  have hnw : wtV ({ y with N := ns } : Atm).cd ≤ 5000 := by
   have h6 := zcn ns (fun u hu => by
    rw [hns] at hu
    rcases zgg.1 hu with h | h
    ·exact hyf.2.2.2.2 u h
    ·rw [List.mem_singleton.1 h]; exact ⟨by have := hs.1; simp only [pcap] at this; omega, hs.2⟩)
   have h7 : ns.length ≤ 6 := by rw [hns, zgi]; have h5 := hyf.2.2.1; show _ + 1 ≤ 6; omega
   have h8 := hyf.1.2; have h9 := hyf.2.1.2; have h10 := hyf.2.2.2.1; have h11 := hyf.2.2.1; rw [Atm.wtV_eq]
   show wtV y.a.cd + (wtV y.b.cd + (ns.length + wtR (ns.map Tm.cd) + y.T.length)) ≤ 5000
   omega
  clear hns; obtain ⟨e5, g5, rfl, AL5⟩ := AM; have hrow : ∀ q, (Value.slice a5 y.N.length c5).ownBlock = some q → w.heap.size + 1 + 1 ≤ q ∧ q ≠ V := fun q hq => ⟨(hO4.o5.block hq).1, fun e => hoff.1 (e ▸ hq)⟩; replace hF : (fun U : World => Lst rb (yNl y a2 c2 a4 c4 a5 c5 a6 c6) V U ∧ Lst rb [.slice a0 s.Y.length c0] w.heap.size U) w5 := ⟨hF.1.grownL hg5 (fun q hq => (hrow q hq).2), hF.2.grownL hg5 (fun q hq => by have := (hrow q hq).1; omega)⟩; replace hR4 := hR4.grownL hg5 (fun q hq => by have := (hrow q hq).1; omega); replace hr4 := hr4.grown hg5 (fun q hq => by have := (hrow q hq).1; omega); replace hN4 := hN4.grown hg5 (fun q hq => by have := (hrow q hq).1; omega); clear hown5 hg5 hv5 hs5 hO4 hrt hcl hrow hna hfa'; refine hK.out _ _ (fun _ => hF) ?_; clear hK
  try simp only [zgB]
  refine Till.one (i := 7) (by kernel_rfl) rfl (fun K hK => ?_); go_simp; refine hK.out _ _ (fun _ => hF) ?_; clear hK
  try simp only [zgB]
  refine Till.one (i := 8) (by kernel_rfl) rfl (fun K hK => ?_); have k0 := hF.1.2.2.1 5 _ rfl; have k1 := hF.1.2.2.2 5; go_simp; refine hK.out _ _ (fun h => absurd h (by decide)) ?_; clear hK
  try simp only [zgB]
  refine Till.done (by kernel_rfl) ?_ _; have hV : Lst rb [.int .i64 y.kind, .string y.a.name, .slice a2 y.a.K.length c2, .string y.b.name, .slice a4 y.b.K.length c4, .slice e5 ns.length g5, .slice a6 y.T.length c6, .int .i64 y.O, .bool y.C] V (w5.setCell ⟨V, 5, none⟩ (.slice e5 ns.length g5)) := hF.1.put (k := 5) (by simp) _; have hRS : Lst rb yZl (w.heap.size + 1) (w5.setCell ⟨V, 5, none⟩ (.slice e5 ns.length g5)) := hR4.sets_other (b := V) (.inl (by omega)) [(5, .slice e5 ns.length g5)]; have AL := AL5.setV [(5, .slice e5 ns.length g5)]; have hrr := Rdr.sets (b := V) (by omega) [(5, .slice e5 ns.length g5)] hr4; have hNW := Only.setsR (b := V) (by omega) [(5, .slice e5 ns.length g5)] hN4; have hsz := hNW.size; simp only [zi] at AL hrr hNW hsz; clear hF hR4 hN4 hr4 AL5 k0 k1; go_upto_region 14 with fail; generalize w5.setCell ⟨V, 5, none⟩ (.slice e5 ns.length g5) = W5 at *; obtain ⟨q0, q1, q2, q3, q4, q5, q6, q7, q8⟩ := yR9 hV.2.2.1 rfl; obtain ⟨vc0, vc1, vc2, vc3, vc4, vc5, vc6, vc7, vc8⟩ := yR9 hRS.2.2.1 rfl; obtain ⟨vf0, vf1, vf2, vf3, vf4, vf5, vf6, vf7, vf8⟩ := yQ9 hRS.2.2.2; have A5 := AL.setLow (b := w.heap.size + 1) [(0, .int .i64 y.kind), (1, .string y.a.name), (2, .slice a2 y.a.K.length c2), (3, .string y.b.name), (4, .slice a4 y.b.K.length c4), (5, .slice e5 ns.length g5), (6, .slice a6 y.T.length c6), (7, .int .i64 y.O), (8, .bool y.C)] (by omega); have O5 := Only.setsR (b := w.heap.size + 1) (by omega) [(0, .int .i64 y.kind), (1, .string y.a.name), (2, .slice a2 y.a.K.length c2), (3, .string y.b.name), (4, .slice a4 y.b.K.length c4), (5, .slice e5 ns.length g5), (6, .slice a6 y.T.length c6), (7, .int .i64 y.O), (8, .bool y.C)] hNW; have R9 := Rdr.sets (b := w.heap.size + 1) (by omega) [(0, .int .i64 y.kind), (1, .string y.a.name), (2, .slice a2 y.a.K.length c2), (3, .string y.b.name), (4, .slice a4 y.b.K.length c4), (5, .slice e5 ns.length g5), (6, .slice a6 y.T.length c6), (7, .int .i64 y.O), (8, .bool y.C)] (hrr.mono (q := p + 200) (by (try simp only [pcap]); omega))
  have NS := zal (u := W5) (b := w.heap.size + 1) (.int .i64 y.kind) (.string y.a.name) (.slice a2 y.a.K.length c2) (.string y.b.name) (.slice a4 y.b.K.length c4) (.slice e5 ns.length g5) (.slice a6 y.T.length c6) (.int .i64 y.O) (.bool y.C) (fun j hj => by
   rcases j with _ | _ | _ | _ | _ | _ | _ | _ | _ | j
   all_goals first | exact ⟨_, hRS.2.2.1 _ _ rfl⟩ | omega)
  clear hV hRS hrr hNW AL; simp only [zi] at A5 O5 R9 NS; obtain ⟨R0, R1, R2, R3, R4, R5, R6, R7, R8⟩ := NS; obtain ⟨fz, hfz, hge⟩ := A5.rd; go_wp2_with fail; refine bodyPost_ret (v := .agg #[.int .i64 y.kind, .string y.a.name, .slice a2 y.a.K.length c2, .string y.b.name, .slice a4 y.b.K.length c4, .slice e5 ns.length g5, .slice a6 y.T.length c6, .int .i64 y.O, .bool y.C]) (by simp [results, Tryz.results77, go_sem, R0, R1, R2, R3, R4, R5, R6, R7, R8]) rfl ?_; exact ⟨⟨{ y with N := ns }, _, fz, ⟨ht.1, ht.2.1, hnl, ht.2.2.2.1, hnu, hnw⟩, rfl, hfz, fun b hb => by have := hge b hb; omega⟩, R9, O5⟩
 have e4 : ((d : Int) == 4) = false := by simpa using (by omega : ¬ ((d : Int) = 4))
 go_upto_region 14 with fail; have hV := hV3; have hRS := hR3; have AL := hL3; have hrr := hr2; have hNW := hN3; have hsz := hN3.size; clear hV3 hR3 hL3 hN3 hr2; generalize w3 = W5 at *; obtain ⟨q0, q1, q2, q3, q4, q5, q6, q7, q8⟩ := yR9 hV.2.2.1 rfl; obtain ⟨vc0, vc1, vc2, vc3, vc4, vc5, vc6, vc7, vc8⟩ := yR9 hRS.2.2.1 rfl; obtain ⟨vf0, vf1, vf2, vf3, vf4, vf5, vf6, vf7, vf8⟩ := yQ9 hRS.2.2.2; have A5 := AL.setLow (b := w.heap.size + 1) (yNp y a2 c2 a4 c4 a5 c5 a6 c6) (by omega); have O5 := Only.setsR (b := w.heap.size + 1) (by omega) (yNp y a2 c2 a4 c4 a5 c5 a6 c6) hNW; have R9 := Rdr.sets (b := w.heap.size + 1) (by omega) (yNp y a2 c2 a4 c4 a5 c5 a6 c6) (hrr.mono (q := p + 200) (by (try simp only [pcap]); omega))
 have NS := zal (u := W5) (b := w.heap.size + 1) (.int .i64 y.kind) (.string y.a.name) (.slice a2 y.a.K.length c2) (.string y.b.name) (.slice a4 y.b.K.length c4) (.slice a5 y.N.length c5) (.slice a6 y.T.length c6) (.int .i64 y.O) (.bool y.C) (fun j hj => by
  rcases j with _ | _ | _ | _ | _ | _ | _ | _ | _ | j
  all_goals first | exact ⟨_, hRS.2.2.1 _ _ rfl⟩ | omega)
 clear hV hRS hrr hNW AL; simp only [zi] at A5 O5 R9 NS; obtain ⟨R0, R1, R2, R3, R4, R5, R6, R7, R8⟩ := NS; obtain ⟨fz, hfz, hge⟩ := A5.rd; go_wp2_with fail; refine bodyPost_ret (v := .agg (yNa y a2 c2 a4 c4 a5 c5 a6 c6)) (by simp [results, Tryz.results77, go_sem, R0, R1, R2, R3, R4, R5, R6, R7, R8]) rfl ?_; exact ⟨⟨y, _, fz, ht, rfl, hfz, fun b hb => by have := hge b hb; omega⟩, R9, O5⟩
/-- Block b holds vs, and may be written. -/
def Box (vs : List Value) (b : Nat) (w : World) : Prop := b < w.heap.size ∧ (∀ j u, vs[j]? = some u → w.cell? ⟨b, j, none⟩ = some u) ∧ ∀ j, w.frozen? ⟨b, j, none⟩ = false
theorem Box.new (w : World) (vs : List Value) (T : TypeId) : Box vs w.heap.size (w.alloc (.cells vs.toArray T)) := ⟨by simp, fun j u hu => zx w vs T j u hu, fun j => zR _ _ _ _⟩
theorem Box.below {w w' : World} {b : Nat} {vs : List Value} (h : Box vs b w) (hb : Below w.heap.size w w') : Box vs b w' :=
 ⟨zge h.1 hb.size, fun j u hu => za (h.2.1 j u hu) hb, fun j => (zk (hb.block b h.1)).trans (h.2.2 j)⟩
theorem Box.alloc {w : World} {b : Nat} {vs : List Value} (h : Box vs b w) (o : Obj) : Box vs b (w.alloc o) := h.below (zb w o)
theorem Box.only {w w' : World} {rb b : Nat} {vs : List Value} (h : Box vs b w) (ho : Only [rb] w w') (hn : b ≠ rb) : Box vs b w' :=
 ⟨zge h.1 ho.size, fun j u hu => ho.cellk (h.2.1 j u hu) hn, fun j => ho.free (h.2.2 j) h.1 hn⟩
theorem Box.put {u : World} {b : Nat} {vs : List Value} (h : Box vs b u) {k : Nat} (hk : k < vs.length) (v : Value) : Box (vs.set k v) b (u.setCell ⟨b, k, none⟩ v) := by
 obtain ⟨h2, h3, h4⟩ := h; refine ⟨by simpa [World.setCell] using h2, fun j x hx => ?_, fun j => by simp [go_sem, h4 j]⟩
 by_cases e : j = k
 ·subst e
  rw [List.getElem?_set_self hk] at hx; obtain rfl := zgA hx; exact zgu u ⟨b, j, none⟩ v (h3 j _ (zgp hk))
 ·rw [List.getElem?_set_ne (fun h => e h.symm)] at hx
  exact (zgt _ _ _ _ (by intro h; simp only [Addr.mk.injEq] at h; omega)).trans (h3 j x hx)
theorem Box.sets_other {u : World} {lb b : Nat} {vs : List Value} (h : Box vs lb u) (hne : lb < b ∨ b < lb) (ups : List (Nat × Value)) : Box vs lb (zi b ups u) := by
 have hL := Loc.sets (b := b) (lo := b) (hi := b + 1) (zgo _) (by omega) ups (Loc.refl _ _ u); have hk := hL.block lb h.1 (by omega); exact ⟨zge h.1 hL.size, fun j x hx => ze hk (h.2.1 j x hx), fun j => zp hk (h.2.2 j)⟩
/-- The values with their places. -/
def zd : Nat → List Value → List (Nat × Value)
 | _, [] => []
 | k, v :: r => (k, v) :: zd (k + 1) r
theorem Box.puts_from : ∀ (vs done old : List Value) {u : World} {b : Nat}, old.length = vs.length → Box (done ++ old) b u → Box (done ++ vs) b (zi b (zd done.length vs) u)
 | [], done, old, u, b, hl, h => by
  obtain rfl : old = [] := List.eq_nil_of_length_eq_zero hl; exact h
 | v :: r, done, [], u, b, hl, h => by simp at hl
 | v :: r, done, o :: old, u, b, hl, h => by
  have h1 := h.put (k := done.length) (by simp) v; rw [List.set_append_right _ _ (zgo _), Nat.sub_self, zfZ] at h1; have h2 := Box.puts_from r (done ++ [v]) old (by simpa using hl) (by simpa using h1)
  simpa [zi, zd] using h2
theorem Box.puts {u : World} {b : Nat} {old : List Value} (vs : List Value) (h : Box old b u) (hl : old.length = vs.length) : Box vs b (zi b (zd 0 vs) u) := by
 have h1 := Box.puts_from vs [] old hl (by simpa using h)
 simpa using h1
theorem zaa {w : World} {B b : Nat} (hb : B ≤ b) : ∀ (ups : List (Nat × Value)) {u : World}, Below B w u → Below B w (zi b ups u)
 | [], _, h => h
 | p :: r, _, h => zaa hb r (h.setCell hb _)
/-- All but the blocks A and B as it was. -/
def Same2 (A B : Nat) (w w' : World) : Prop := ∀ b, b < w.heap.size → b ≠ A → b ≠ B → w'.heap[b]? = w.heap[b]?
theorem Same2.refl (A B : Nat) (w : World) : Same2 A B w w := fun _ _ _ _ => rfl
theorem Same2.sets {A B b : Nat} {w : World} (hb : b = A ∨ b = B) : ∀ (ups : List (Nat × Value)) {u : World}, Same2 A B w u → Same2 A B w (zi b ups u)
 | [], _, h => h
 | p :: r, u, h => Same2.sets hb r (fun q h1 h2 h3 => (Below.heap_setCell u _ _ q (fun e : q = b => by rcases hb with hb | hb <;> omega)).trans (h q h1 h2 h3))
theorem Same2.trans {A B : Nat} {w w1 w2 : World} (h : Same2 A B w w1) (h' : Same2 A B w1 w2) (hs : w.heap.size ≤ w1.heap.size) : Same2 A B w w2 := fun b h1 h2 h3 => (h' b (zge h1 hs) h2 h3).trans (h b h1 h2 h3)
theorem Rd.same2 {A B : Nat} {w w' : World} {d : CD} {v : Value} {f : List Nat} (h : Rd w d v f) (hs : Same2 A B w w') (hf : ∀ b ∈ f, b ≠ A ∧ b ≠ B) : Rd w' d v f := h.same d (fun b hb => hs b (h.lt d b hb) (hf b hb).1 (hf b hb).2)
theorem RdVs.same2 {A B : Nat} {w w' : World} {d : List CD} {v : List Value} {f : List Nat} (h : RdVs w d v f) (hs : Same2 A B w w') (hf : ∀ b ∈ f, b ≠ A ∧ b ≠ B) : RdVs w' d v f := h.same d (fun b hb => hs b (h.lt d b hb) (hf b hb).1 (hf b hb).2)
theorem Box.grownB {u u' : World} {b : Nat} {vs : List Value} {row : Option Nat} (h : Box vs b u) (hg : u.grownBy u' row) (hr : ∀ q, row = some q → q ≠ b) : Box vs b u' := by
 have hn : row ≠ some b := fun e => hr b e rfl; exact ⟨zge h.1 hg.size, fun j x hx => zr hg (h.2.1 j x hx) hn, fun j => zH hg h.1 (h.2.2 j) hn⟩
def gcap : Nat → Nat | 0 => 0 | n + 1 => 4 + 2 * gcap n
def fcap : Nat → Nat | 0 => 0 | n + 1 => 5002 + 2 * fcap n
/-- A form that is drawn, out of what lies in lf. -/
def DrawnF (cap : Nat) (lf : List Nat) (w : World) (e : Ending) (w' : World) : Prop := ∃ (f : Fm) (vs : List Value) (fp : List Nat), wtV f.cd ≤ cap ∧ e = .returned (.agg vs.toArray) ∧ RdVs w' f.cd vs fp ∧ ∀ b ∈ fp, b ∈ lf ∨ w.heap.size ≤ b
theorem lt_wt9 (x : Atm) (no : Bool) : wtV (Lt.mk x no).cd = wtV x.cd := by rw [Lt.cd, zI, zav]; rfl
theorem leaf_wt (x : Atm) (no : Bool) : wtV (Fm.mk 1 ⟨x, no⟩ []).cd = wtV x.cd := by
 rw [Fm.wt_eq]; simp only [Fm.L, Fm.K, List.length_nil, List.map_nil, wtR]; rw [lt_wt9]; omega
theorem inner_wt (k : Int) (ks : List Fm) : wtV (Fm.mk k ⟨Atm.zero, false⟩ ks).cd = ks.length + wtR (ks.map Fm.cd) := by
 rw [Fm.wt_eq]; simp only [Fm.L, Fm.K]
 have h : wtV (Lt.mk Atm.zero false).cd = 0 := by rw [lt_wt9, Atm.wtV_eq]; simp only [Atm.zero]; rw [Tm.wtV_eq]; rfl
 omega
theorem kids_wt {ks : List Fm} {f : Fm} {c : Nat} (h : wtR (ks.map Fm.cd) ≤ ks.length * c) (hf : wtV f.cd ≤ c) : wtR ((ks ++ [f]).map Fm.cd) ≤ (ks ++ [f]).length * c := by
 have h1 : (ks ++ [f]).length * c = ks.length * c + c := by rw [zgi]; exact Nat.succ_mul _ _
 rw [h1, zgj, zW]
 have h2 : wtR ([f].map Fm.cd) = wtV f.cd := by simp [wtR]
 omega
theorem wrap9 {d : Int} (h1 : 0 ≤ d) (h2 : d ≤ 100) : IntKind.i64.wrap d = d := IntWalk.i64_in _ (by omega)
theorem zdR (n : Nat) : ∀ (l : List Atm) (lv : Value) (lf : List Nat) (deep : Int) (rb p : Nat) (w : World), 1 ≤ deep → deep ≤ n → n ≤ 4 → p + gcap n ≤ 1000000000 → 1 ≤ l.length → l.length ≤ 6 → Hid (∀ x ∈ l, x.few) → Rd w (.sl (l.map Atm.cd)) lv lf → rb ∉ lf → Rdr w rb p →
  Calls Tryz.prog 70 #[.pointer (some ⟨rb, 0, none⟩), lv, .int .i64 deep] w fun e w' => DrawnF (fcap n) lf w e w' ∧ Rdr w' rb (p + gcap n) ∧ Only [rb] w w' := by
 induction n with
 | zero => intro l lv lf deep rb p w h1 h2; omega
 | succ n ih =>
  intro l lv lf deep rb p w hd1 hdn hn4 hp hl1 hl6 HL hrd hnr hr; simp only [gcap] at hp ⊢; simp only [fcap]; obtain ⟨la, lc, rfl, _, _⟩ := zg hrd; obtain ⟨lb, lo, rfl, hlb, hlm⟩ := zl hrd (by omega); have hlfl := hrd.lt; have hlt := hr.lt; have hA0 := Box.new w yYl 36; have hbn := zb w (.cells yYa 36); go_enter Tryz.func70, Tryz.ntmps70; go_upto_region 1 with fail; generalize w.alloc (.cells yYa 36) = W0 at *; have hr0 := hr.below hbn; have hN0 : Only [rb] w W0 := Only.below hbn; clear hbn hr
  by_cases hdeep : deep ≤ 1
  ·have hg : decide (deep ≤ 1) = true := decide_eq_true hdeep
   have hrdW := hrd.only hN0 hnr; have hAW := hA0; have hrW := hr0; have hNW := hN0; clear hrd hA0 hr0 hN0 ih; go_upto_region 2 with fail; have hLW := hrdW.lt; refine Till.start (F := (fun U : World => ∀ b ∈ lf, U.heap[b]? = W0.heap[b]?)) (s0 := 12) (by kernel_rfl) ?_; have hF : (fun U : World => ∀ b ∈ lf, U.heap[b]? = W0.heap[b]?) W0.drew := fun b hb => (zj W0).block b (hLW b hb); have hA' := hAW.below (zj W0); have hr' := hrW.below (zj W0); have hN' := hNW.trans (Only.below (zj W0)); clear hAW hrW hNW; generalize W0.drew = v0 at *; refine Till.take (i := 0) (v := (.slice (some ⟨lb, lo, none⟩) l.length lc)) rfl (by kernel_rfl) (by kernel_rfl) (by kernel_rfl) (fun _ _ _ h => h) (by kernel_rfl) (Or.inl ⟨by rfl, fun U hU => ?_⟩) hF ?_
   ·clear hU; go_simp
   try simp only [zgB]
   refine Till.take (i := 1) (v := (.pointer (some ⟨rb, 0, none⟩))) rfl (by kernel_rfl) (by kernel_rfl) (by kernel_rfl) (fun _ _ _ h => h) (by kernel_rfl) (Or.inl ⟨by rfl, fun U hU => ?_⟩) hF ?_
   ·clear hU; go_simp
   try simp only [zgB]
   refine Till.take (i := 2) (v := (.slice (some ⟨lb, lo, none⟩) l.length lc)) rfl (by kernel_rfl) (by kernel_rfl) (by kernel_rfl) (fun _ _ _ h => h) (by kernel_rfl) (Or.inl ⟨by rfl, fun U hU => ?_⟩) hF ?_
   ·clear hU; go_simp
   try simp only [zgB]
   refine Till.take (i := 3) (v := (.int .i64 l.length)) rfl (by kernel_rfl) (by kernel_rfl) (by kernel_rfl) (fun _ _ _ h => h) (by kernel_rfl) (Or.inl ⟨by rfl, fun U hU => ?_⟩) hF ?_
   ·clear hU; go_simp
   try simp only [zgB]
   refine Till.take (i := 7) (v := (.pointer (some ⟨rb, 0, none⟩))) rfl (by kernel_rfl) (by kernel_rfl) (by kernel_rfl) (fun _ _ _ h => h) (by kernel_rfl) (Or.inl ⟨by rfl, fun U hU => ?_⟩) hF ?_
   ·clear hU; go_simp
   try simp only [zgB]
   refine Till.one (i := 4) (by kernel_rfl) rfl (fun K hK => ?_); go_simp; go_at_call 72; refine (zS rb p (l.length : Int) _ (by omega) (by omega) (by omega) (by exact hr')).mono ?_; rintro e v1 ⟨⟨d, hd, rfl⟩, hr1, ho1⟩
   have hdl : d < l.length := by omega
   have hzR := hA'.1; replace hF : (fun U : World => ∀ b ∈ lf, U.heap[b]? = W0.heap[b]?) v1 := fun b hb => (ho1.block b (zge (zge (hlfl b hb) (Nat.le_of_lt hzR)) (zgo _)) (by simp; exact fun e => hnr (e ▸ hb))).trans (hF b hb); have hA1 := hA'.only ho1 (by omega); have hN1 := hN'.trans ho1; obtain ⟨b3, d3, g3, b5, d5, g5, b6, d6, g6, b7, d7, g7, e0, e1, e2, e3, e4, e5, e6, e7, e8, m0, m1, m2, m3, m4, m5, m6, m7, hsub⟩ := Atm.at hrdW hdl; obtain ⟨x, hx⟩ : ∃ x, l[d] = x := ⟨_, rfl⟩; have hxf := HL.out x (hx ▸ zgh hdl); rw [hx] at e0 e1 e2 e3 e4 e5 e6 e7 e8 m0 m1 m2 m3 m4 m5 m6 m7; clear hA' hr' hN' ho1 hd hx; refine hK.out _ _ (fun _ => hF) ?_; clear hK
   try simp only [zgB]
   refine Till.take (i := 5) (v := (.pointer (some ⟨lb, lo + d * 9, none⟩))) rfl (by kernel_rfl) (by kernel_rfl) (by kernel_rfl) (fun _ _ _ h => h) (by kernel_rfl) (Or.inl ⟨by rfl, fun U hU => ?_⟩) hF ?_
   ·clear hU; go_simp
   try simp only [zgB]
   refine Till.take (i := 6) (v := (.agg (yNa x b3 d3 b5 d5 b6 d6 b7 d7))) rfl (by kernel_rfl) (by kernel_rfl) (by kernel_rfl) (fun _ _ _ h => h) (by kernel_rfl) (Or.inl ⟨by rfl, fun U hU => ?_⟩) hF ?_
   ·have t0 := (zgv (hU lb hlm)).trans e0; have t1 := (zgv (hU lb hlm)).trans e1; have t2 := (zgv (hU lb hlm)).trans e2; have t3 := (zgv (hU lb hlm)).trans e3; have t4 := (zgv (hU lb hlm)).trans e4; have t5 := (zgv (hU lb hlm)).trans e5; have t6 := (zgv (hU lb hlm)).trans e6; have t7 := (zgv (hU lb hlm)).trans e7; have t8 := (zgv (hU lb hlm)).trans e8; clear hU; go_simp
   try simp only [zgB]
   refine Till.one (i := 8) (by kernel_rfl) rfl (fun K hK => ?_); go_simp; go_at_call 72; refine (zS rb (p + 1) 3 _ (by omega) (by omega) (by omega) (by exact hr1)).mono ?_; rintro e v2 ⟨⟨m', hm', rfl⟩, hRd, ho2⟩; have hzR2 := hA1.1; replace hF : (fun U : World => ∀ b ∈ lf, U.heap[b]? = W0.heap[b]?) v2 := fun b hb => (ho2.block b (zge (hlfl b hb) (Nat.le_of_lt hzR2)) (by simp; exact fun e => hnr (e ▸ hb))).trans (hF b hb); have hA := hA1.only ho2 (by omega); have hN := hN1.trans ho2; obtain ⟨no, hno⟩ : ∃ no, ((m' : Int) == 0) = no := ⟨_, rfl⟩; clear hA1 hN1 ho2 hm' hr1; refine hK.out _ _ (fun _ => hF) ?_; clear hK
   try simp only [zgB]
   refine Till.one (i := 9) (by kernel_rfl) rfl (fun K hK => ?_); go_simp
   try rw [hno]
   clear hno; refine hK.out _ _ (fun _ => hF) ?_; clear hK
   try simp only [zgB]
   refine Till.one (i := 10) (by kernel_rfl) rfl (fun K hK => ?_); go_simp; refine hK.out _ _ (fun _ => hF) ?_; clear hK
   try simp only [zgB]
   refine Till.one (i := 11) (by kernel_rfl) rfl (fun K hK => ?_); go_simp; refine hK.out _ _ (fun _ => hF) ?_; clear hK
   try simp only [zgB]
   obtain ⟨ca0, ca1, ca2, ca3, ca4, ca5, ca6, ca7, ca8, ca9, ca10, ca11⟩ := yR12 hA.2.1 rfl; obtain ⟨cf0, cf1, cf2, cf3, cf4, cf5, cf6, cf7, cf8, cf9, cf10, cf11⟩ := yQ12 hA.2.2; refine Till.one (i := 12) (by kernel_rfl) rfl (fun K hK => ?_); go_simp; refine hK.out _ _ (fun h => absurd h (by decide)) ?_; clear hK
   try simp only [zgB]
   refine Till.done (by kernel_rfl) ?_ _; clear ca0 cf0 ca1 cf1 ca2 cf2 ca3 cf3 ca4 cf4 ca5 cf5 ca6 cf6 ca7 cf7 ca8 cf8 ca9 cf9 ca10 cf10 ca11 cf11; have hcl : RdVs W0 (Fm.mk 1 ⟨x, no⟩ []).cd [.int .i64 1, .int .i64 x.kind, .string x.a.name, .slice b3 x.a.K.length d3, .string x.b.name, .slice b5 x.b.K.length d5, .slice b6 x.N.length d6, .slice b7 x.T.length d7, .int .i64 x.O, .bool x.C, .bool no, .slice none 0 0] (g3 ++ (g5 ++ (g6 ++ (g7 ++ [])))) := Fm.close (x := Fm.mk 1 ⟨x, no⟩ []) (by unfold I64; simp [Fm.kind]) m0 m1 m2 m3 m4 m5 m6 m7 (zaF (cd := Fm.cd) none 0 (by simp)); have hsb : ∀ b ∈ g3 ++ (g5 ++ (g6 ++ (g7 ++ []))), b ∈ lf := fun b hb => hsub b (by simpa using hb); have g1 := hA.puts [.int .i64 1, .int .i64 x.kind, .string x.a.name, .slice b3 x.a.K.length d3, .string x.b.name, .slice b5 x.b.K.length d5, .slice b6 x.N.length d6, .slice b7 x.T.length d7, .int .i64 x.O, .bool x.C, .bool no, .slice none 0 0] rfl; have hK := (Same2.refl w.heap.size w.heap.size v2).sets (b := w.heap.size) (.inl rfl) (zd 0 [.int .i64 1, .int .i64 x.kind, .string x.a.name, .slice b3 x.a.K.length d3, .string x.b.name, .slice b5 x.b.K.length d5, .slice b6 x.N.length d6, .slice b7 x.T.length d7, .int .i64 x.O, .bool x.C, .bool no, .slice none 0 0]); have hO5 := Only.setsR (b := w.heap.size) (zgo _) (zd 0 [.int .i64 1, .int .i64 x.kind, .string x.a.name, .slice b3 x.a.K.length d3, .string x.b.name, .slice b5 x.b.K.length d5, .slice b6 x.N.length d6, .slice b7 x.T.length d7, .int .i64 x.O, .bool x.C, .bool no, .slice none 0 0]) hN; have hR9 := Rdr.sets (b := w.heap.size) (by omega) (zd 0 [.int .i64 1, .int .i64 x.kind, .string x.a.name, .slice b3 x.a.K.length d3, .string x.b.name, .slice b5 x.b.K.length d5, .slice b6 x.N.length d6, .slice b7 x.T.length d7, .int .i64 x.O, .bool x.C, .bool no, .slice none 0 0]) hRd; simp only [zd, zi, Nat.zero_add, Nat.reduceAdd] at g1 hK hO5 hR9; obtain ⟨ra0, ra1, ra2, ra3, ra4, ra5, ra6, ra7, ra8, ra9, ra10, ra11⟩ := yR12 g1.2.1 rfl; clear g1; go_wp2_with fail; refine bodyPost_ret (v := .agg #[.int .i64 1, .int .i64 x.kind, .string x.a.name, .slice b3 x.a.K.length d3, .string x.b.name, .slice b5 x.b.K.length d5, .slice b6 x.N.length d6, .slice b7 x.T.length d7, .int .i64 x.O, .bool x.C, .bool no, .slice none 0 0]) (by simp [results, Tryz.results70, go_sem, ra0, ra1, ra2, ra3, ra4, ra5, ra6, ra7, ra8, ra9, ra10, ra11]) rfl ?_; exact ⟨⟨Fm.mk 1 ⟨x, no⟩ [], _, _, by rw [leaf_wt]; have := hxf.tame.2.2.2.2.2; omega, rfl, (hcl.same _ (fun b hb => hF b (hsb b hb))).same2 hK (fun b hb => by have := hlfl b (hsb b hb); omega), fun b hb => .inl (hsb b hb)⟩, hR9.mono (by omega), hO5⟩
  ·have hg : decide (deep ≤ 1) = false := decide_eq_false hdeep
   go_wp2_with fail; refine (zS rb p 4 _ (by omega) (by omega) (by omega) hr0).mono ?_; rintro e w1 ⟨⟨m, hm, rfl⟩, hr1, ho1⟩; have hzA := hA0.1; have hA1 := hA0.only ho1 (by omega); have hN1 := hN0.trans ho1; clear hr0 hA0 hN0 ho1
   by_cases hm0 : m = 0
   ·subst hm0
    have hrdW := hrd.only hN1 hnr; have hAW := hA1; have hrW := hr1; have hNW := hN1; clear hrd hA1 hr1 hN1 ih; go_upto_region 2 with fail; have hLW := hrdW.lt; refine Till.start (F := (fun U : World => ∀ b ∈ lf, U.heap[b]? = w1.heap[b]?)) (s0 := 12) (by kernel_rfl) ?_; have hF : (fun U : World => ∀ b ∈ lf, U.heap[b]? = w1.heap[b]?) w1.drew := fun b hb => (zj w1).block b (hLW b hb); have hA' := hAW.below (zj w1); have hr' := hrW.below (zj w1); have hN' := hNW.trans (Only.below (zj w1)); clear hAW hrW hNW; generalize w1.drew = v0 at *; refine Till.take (i := 0) (v := (.slice (some ⟨lb, lo, none⟩) l.length lc)) rfl (by kernel_rfl) (by kernel_rfl) (by kernel_rfl) (fun _ _ _ h => h) (by kernel_rfl) (Or.inl ⟨by rfl, fun U hU => ?_⟩) hF ?_
    ·clear hU; go_simp
    try simp only [zgB]
    refine Till.take (i := 1) (v := (.pointer (some ⟨rb, 0, none⟩))) rfl (by kernel_rfl) (by kernel_rfl) (by kernel_rfl) (fun _ _ _ h => h) (by kernel_rfl) (Or.inl ⟨by rfl, fun U hU => ?_⟩) hF ?_
    ·clear hU; go_simp
    try simp only [zgB]
    refine Till.take (i := 2) (v := (.slice (some ⟨lb, lo, none⟩) l.length lc)) rfl (by kernel_rfl) (by kernel_rfl) (by kernel_rfl) (fun _ _ _ h => h) (by kernel_rfl) (Or.inl ⟨by rfl, fun U hU => ?_⟩) hF ?_
    ·clear hU; go_simp
    try simp only [zgB]
    refine Till.take (i := 3) (v := (.int .i64 l.length)) rfl (by kernel_rfl) (by kernel_rfl) (by kernel_rfl) (fun _ _ _ h => h) (by kernel_rfl) (Or.inl ⟨by rfl, fun U hU => ?_⟩) hF ?_
    ·clear hU; go_simp
    try simp only [zgB]
    refine Till.take (i := 7) (v := (.pointer (some ⟨rb, 0, none⟩))) rfl (by kernel_rfl) (by kernel_rfl) (by kernel_rfl) (fun _ _ _ h => h) (by kernel_rfl) (Or.inl ⟨by rfl, fun U hU => ?_⟩) hF ?_
    ·clear hU; go_simp
    try simp only [zgB]
    refine Till.one (i := 4) (by kernel_rfl) rfl (fun K hK => ?_); go_simp; go_at_call 72; refine (zS rb (p + 1) (l.length : Int) _ (by omega) (by omega) (by omega) (by exact hr')).mono ?_; rintro e v1 ⟨⟨d, hd, rfl⟩, hr1, ho1⟩
    have hdl : d < l.length := by omega
    have hzR := hA'.1; replace hF : (fun U : World => ∀ b ∈ lf, U.heap[b]? = w1.heap[b]?) v1 := fun b hb => (ho1.block b (zge (zge (hlfl b hb) (Nat.le_of_lt hzR)) (zgo _)) (by simp; exact fun e => hnr (e ▸ hb))).trans (hF b hb); have hA1 := hA'.only ho1 (by omega); have hN1 := hN'.trans ho1; obtain ⟨b3, d3, g3, b5, d5, g5, b6, d6, g6, b7, d7, g7, e0, e1, e2, e3, e4, e5, e6, e7, e8, m0, m1, m2, m3, m4, m5, m6, m7, hsub⟩ := Atm.at hrdW hdl; obtain ⟨x, hx⟩ : ∃ x, l[d] = x := ⟨_, rfl⟩; have hxf := HL.out x (hx ▸ zgh hdl); rw [hx] at e0 e1 e2 e3 e4 e5 e6 e7 e8 m0 m1 m2 m3 m4 m5 m6 m7; clear hA' hr' hN' ho1 hd hx; refine hK.out _ _ (fun _ => hF) ?_; clear hK
    try simp only [zgB]
    refine Till.take (i := 5) (v := (.pointer (some ⟨lb, lo + d * 9, none⟩))) rfl (by kernel_rfl) (by kernel_rfl) (by kernel_rfl) (fun _ _ _ h => h) (by kernel_rfl) (Or.inl ⟨by rfl, fun U hU => ?_⟩) hF ?_
    ·clear hU; go_simp
    try simp only [zgB]
    refine Till.take (i := 6) (v := (.agg (yNa x b3 d3 b5 d5 b6 d6 b7 d7))) rfl (by kernel_rfl) (by kernel_rfl) (by kernel_rfl) (fun _ _ _ h => h) (by kernel_rfl) (Or.inl ⟨by rfl, fun U hU => ?_⟩) hF ?_
    ·have t0 := (zgv (hU lb hlm)).trans e0; have t1 := (zgv (hU lb hlm)).trans e1; have t2 := (zgv (hU lb hlm)).trans e2; have t3 := (zgv (hU lb hlm)).trans e3; have t4 := (zgv (hU lb hlm)).trans e4; have t5 := (zgv (hU lb hlm)).trans e5; have t6 := (zgv (hU lb hlm)).trans e6; have t7 := (zgv (hU lb hlm)).trans e7; have t8 := (zgv (hU lb hlm)).trans e8; clear hU; go_simp
    try simp only [zgB]
    refine Till.one (i := 8) (by kernel_rfl) rfl (fun K hK => ?_); go_simp; go_at_call 72; refine (zS rb ((p + 1) + 1) 3 _ (by omega) (by omega) (by omega) (by exact hr1)).mono ?_; rintro e v2 ⟨⟨m', hm', rfl⟩, hRd, ho2⟩; have hzR2 := hA1.1; replace hF : (fun U : World => ∀ b ∈ lf, U.heap[b]? = w1.heap[b]?) v2 := fun b hb => (ho2.block b (zge (hlfl b hb) (Nat.le_of_lt hzR2)) (by simp; exact fun e => hnr (e ▸ hb))).trans (hF b hb); have hA := hA1.only ho2 (by omega); have hN := hN1.trans ho2; obtain ⟨no, hno⟩ : ∃ no, ((m' : Int) == 0) = no := ⟨_, rfl⟩; clear hA1 hN1 ho2 hm' hr1; refine hK.out _ _ (fun _ => hF) ?_; clear hK
    try simp only [zgB]
    refine Till.one (i := 9) (by kernel_rfl) rfl (fun K hK => ?_); go_simp
    try rw [hno]
    clear hno; refine hK.out _ _ (fun _ => hF) ?_; clear hK
    try simp only [zgB]
    refine Till.one (i := 10) (by kernel_rfl) rfl (fun K hK => ?_); go_simp; refine hK.out _ _ (fun _ => hF) ?_; clear hK
    try simp only [zgB]
    refine Till.one (i := 11) (by kernel_rfl) rfl (fun K hK => ?_); go_simp; refine hK.out _ _ (fun _ => hF) ?_; clear hK
    try simp only [zgB]
    obtain ⟨ca0, ca1, ca2, ca3, ca4, ca5, ca6, ca7, ca8, ca9, ca10, ca11⟩ := yR12 hA.2.1 rfl; obtain ⟨cf0, cf1, cf2, cf3, cf4, cf5, cf6, cf7, cf8, cf9, cf10, cf11⟩ := yQ12 hA.2.2; refine Till.one (i := 12) (by kernel_rfl) rfl (fun K hK => ?_); go_simp; refine hK.out _ _ (fun h => absurd h (by decide)) ?_; clear hK
    try simp only [zgB]
    refine Till.done (by kernel_rfl) ?_ _; clear ca0 cf0 ca1 cf1 ca2 cf2 ca3 cf3 ca4 cf4 ca5 cf5 ca6 cf6 ca7 cf7 ca8 cf8 ca9 cf9 ca10 cf10 ca11 cf11; have hcl : RdVs w1 (Fm.mk 1 ⟨x, no⟩ []).cd [.int .i64 1, .int .i64 x.kind, .string x.a.name, .slice b3 x.a.K.length d3, .string x.b.name, .slice b5 x.b.K.length d5, .slice b6 x.N.length d6, .slice b7 x.T.length d7, .int .i64 x.O, .bool x.C, .bool no, .slice none 0 0] (g3 ++ (g5 ++ (g6 ++ (g7 ++ [])))) := Fm.close (x := Fm.mk 1 ⟨x, no⟩ []) (by unfold I64; simp [Fm.kind]) m0 m1 m2 m3 m4 m5 m6 m7 (zaF (cd := Fm.cd) none 0 (by simp)); have hsb : ∀ b ∈ g3 ++ (g5 ++ (g6 ++ (g7 ++ []))), b ∈ lf := fun b hb => hsub b (by simpa using hb); have g1 := hA.puts [.int .i64 1, .int .i64 x.kind, .string x.a.name, .slice b3 x.a.K.length d3, .string x.b.name, .slice b5 x.b.K.length d5, .slice b6 x.N.length d6, .slice b7 x.T.length d7, .int .i64 x.O, .bool x.C, .bool no, .slice none 0 0] rfl; have hK := (Same2.refl w.heap.size w.heap.size v2).sets (b := w.heap.size) (.inl rfl) (zd 0 [.int .i64 1, .int .i64 x.kind, .string x.a.name, .slice b3 x.a.K.length d3, .string x.b.name, .slice b5 x.b.K.length d5, .slice b6 x.N.length d6, .slice b7 x.T.length d7, .int .i64 x.O, .bool x.C, .bool no, .slice none 0 0]); have hO5 := Only.setsR (b := w.heap.size) (zgo _) (zd 0 [.int .i64 1, .int .i64 x.kind, .string x.a.name, .slice b3 x.a.K.length d3, .string x.b.name, .slice b5 x.b.K.length d5, .slice b6 x.N.length d6, .slice b7 x.T.length d7, .int .i64 x.O, .bool x.C, .bool no, .slice none 0 0]) hN; have hR9 := Rdr.sets (b := w.heap.size) (by omega) (zd 0 [.int .i64 1, .int .i64 x.kind, .string x.a.name, .slice b3 x.a.K.length d3, .string x.b.name, .slice b5 x.b.K.length d5, .slice b6 x.N.length d6, .slice b7 x.T.length d7, .int .i64 x.O, .bool x.C, .bool no, .slice none 0 0]) hRd; simp only [zd, zi, Nat.zero_add, Nat.reduceAdd] at g1 hK hO5 hR9; obtain ⟨ra0, ra1, ra2, ra3, ra4, ra5, ra6, ra7, ra8, ra9, ra10, ra11⟩ := yR12 g1.2.1 rfl; clear g1; go_wp2_with fail; refine bodyPost_ret (v := .agg #[.int .i64 1, .int .i64 x.kind, .string x.a.name, .slice b3 x.a.K.length d3, .string x.b.name, .slice b5 x.b.K.length d5, .slice b6 x.N.length d6, .slice b7 x.T.length d7, .int .i64 x.O, .bool x.C, .bool no, .slice none 0 0]) (by simp [results, Tryz.results70, go_sem, ra0, ra1, ra2, ra3, ra4, ra5, ra6, ra7, ra8, ra9, ra10, ra11]) rfl ?_; exact ⟨⟨Fm.mk 1 ⟨x, no⟩ [], _, _, by rw [leaf_wt]; have := hxf.tame.2.2.2.2.2; omega, rfl, (hcl.same _ (fun b hb => hF b (hsb b hb))).same2 hK (fun b hb => by have := hlfl b (hsb b hb); omega), fun b hb => .inl (hsb b hb)⟩, hR9.mono (by omega), hO5⟩
   ·have em : ((m : Int) == 0) = false := by simpa using hm0
    go_wp2_with fail; refine (zaW 7 [3, 4, 4, 5, 3, 6, 2] [.int .i64 3, .int .i64 4, .int .i64 4, .int .i64 5, .int .i64 3, .int .i64 6, .int .i64 2] rfl rfl rb (p + 1) _ _ (by omega) (by simp) (by simp) (by exact Lst.new hr1.lt _ _) (hr1.below (zb _ _))).mono ?_; rintro e w2 ⟨⟨k, hk, rfl⟩, hr2, ho2⟩
    have hk64 : I64 k := by simp at hk; unfold I64; omega
    have hnk : 0 ≤ Fm.nk k ∧ Fm.nk k ≤ 2 := by
     have hk' : k = 2 ∨ k = 3 ∨ k = 4 ∨ k = 5 ∨ k = 6 := by simp at hk; omega
     rcases hk' with rfl | rfl | rfl | rfl | rfl <;> decide
    have hA2 := (hA1.alloc (.cells #[.int .i64 3, .int .i64 4, .int .i64 4, .int .i64 5, .int .i64 3, .int .i64 6, .int .i64 2] 3)).only ho2 (by omega); have hN2 := (hN1.alloc (.cells #[.int .i64 3, .int .i64 4, .int .i64 4, .int .i64 5, .int .i64 3, .int .i64 6, .int .i64 2] 3)).trans ho2; clear hr1 hA1 hN1 ho2 hk em; go_upto_region 4 with fail; obtain ⟨V, hVe⟩ : ∃ V, V = w2.heap.size := ⟨_, rfl⟩; have hV := Box.new w2 [.int .i64 k, .int .i64 0, .string ⟨#[]⟩, .slice none 0 0, .string ⟨#[]⟩, .slice none 0 0, .slice none 0 0, .slice none 0 0, .int .i64 0, .bool false, .bool false, .slice none 0 0] 36; have hzV := hA2.1; rw [← hVe] at hV ⊢
    have hVA : w.heap.size < V := by omega
    have hA3 := hA2.alloc (.cells #[.int .i64 k, .int .i64 0, .string ⟨#[]⟩, .slice none 0 0, .string ⟨#[]⟩, .slice none 0 0, .slice none 0 0, .slice none 0 0, .int .i64 0, .bool false, .bool false, .slice none 0 0] 36); have hr3 := hr2.alloc (.cells #[.int .i64 k, .int .i64 0, .string ⟨#[]⟩, .slice none 0 0, .string ⟨#[]⟩, .slice none 0 0, .slice none 0 0, .slice none 0 0, .int .i64 0, .bool false, .bool false, .slice none 0 0] 36); have hN3 := hN2.alloc (.cells #[.int .i64 k, .int .i64 0, .string ⟨#[]⟩, .slice none 0 0, .string ⟨#[]⟩, .slice none 0 0, .slice none 0 0, .slice none 0 0, .int .i64 0, .bool false, .bool false, .slice none 0 0] 36)
    have hz3 : V + 1 ≤ (w2.alloc (.cells #[.int .i64 k, .int .i64 0, .string ⟨#[]⟩, .slice none 0 0, .string ⟨#[]⟩, .slice none 0 0, .slice none 0 0, .slice none 0 0, .int .i64 0, .bool false, .bool false, .slice none 0 0] 36)).heap.size := by rw [zgs]; omega
    clear hA2 hN2 hr2 hVe hzV; generalize w2.alloc (.cells #[.int .i64 k, .int .i64 0, .string ⟨#[]⟩, .slice none 0 0, .string ⟨#[]⟩, .slice none 0 0, .slice none 0 0, .slice none 0 0, .int .i64 0, .bool false, .bool false, .slice none 0 0] 36) = w3 at *; go_wp2_with fail
    go_loopw [8] (fun iv wr => ∃ (ks : List Fm) (kv : Value) (fp : List Nat) (q : Nat), iv = .int .i64 ks.length ∧ ks.length ≤ 2 ∧ q ≤ p + 2 + ks.length * gcap n ∧ Hid (wtR (ks.map Fm.cd) ≤ ks.length * fcap n) ∧ Own wr (V + 1) 36 12 kv (ks.map Fm.cd) fp ∧ (∀ b ∈ fp, b ∈ lf ∨ V < b) ∧ Box [.int .i64 k, .int .i64 0, .string ⟨#[]⟩, .slice none 0 0, .string ⟨#[]⟩, .slice none 0 0, .slice none 0 0, .slice none 0 0, .int .i64 0, .bool false, .bool false, kv] V wr ∧ Box yYl w.heap.size wr ∧ Rdr wr rb q ∧ Only [rb] w wr ∧ V + 1 ≤ wr.heap.size) (fun iv _ => 2 - (intOf iv).toNat)
    case atStart => exact ⟨[], .slice none 0 0, [], p + 1 + 1, rfl, by simp, by omega, zgn (by simp [wtR]), Own.nil _ _ _ _, by simp, hV, hA3, hr3, hN3, hz3⟩
    case round =>
     clear hV hA3 hr3 hN3 hz3; obtain ⟨ks, kv, fp, q, rfl, hks2, hq, HWT, hO3, hfp, hV3, hA3, hr3, hN3, hz3⟩ := hrel; obtain ⟨ka, kn, kc, rfl⟩ := hO3.form'; have k0 := hV3.2.1 0 _ rfl; go_wp2_with fail; refine (zbM k _).mono ?_; rintro e w3 ⟨rfl, hb3⟩; replace hO3 := hO3.below hb3; replace hV3 := hV3.below hb3; replace hA3 := hA3.below hb3; replace hr3 := hr3.below hb3; replace hN3 := hN3.trans (Only.below hb3); replace hz3 := zgy hz3 hb3.size; clear hb3 k0
     by_cases hc : (ks.length : Int) < Fm.nk k
     ·have hc1 : decide ((ks.length : Int) < Fm.nk k) = true := decide_eq_true hc
      have hm1 : ks.length * gcap n ≤ 1 * gcap n := Nat.mul_le_mul_right _ (by omega); go_upto_region 7 with fail; refine Till.start (F := (fun U : World => Box [.int .i64 k, .int .i64 0, .string ⟨#[]⟩, .slice none 0 0, .string ⟨#[]⟩, .slice none 0 0, .slice none 0 0, .slice none 0 0, .int .i64 0, .bool false, .bool false, .slice ka kn kc] V U)) (s0 := 10) (by kernel_rfl) ?_; have hbd := zj w3; have hF : (fun U : World => Box [.int .i64 k, .int .i64 0, .string ⟨#[]⟩, .slice none 0 0, .string ⟨#[]⟩, .slice none 0 0, .slice none 0 0, .slice none 0 0, .int .i64 0, .bool false, .bool false, .slice ka kn kc] V U) w3.drew := hV3.below hbd; have hA' := hA3.below hbd; have hr' := hr3.below hbd; have hN' := hN3.trans (Only.below hbd); have hO' := hO3.below hbd; have hrdv := hrd.only hN' hnr; have hzv : V + 1 ≤ w3.drew.heap.size := zgy hz3 hbd.size; clear hV3 hA3 hr3 hN3 hO3 hbd hz3; generalize w3.drew = v0 at *; refine Till.take (i := 0) (v := (.pointer (some ⟨V, 11, none⟩))) rfl (by kernel_rfl) (by kernel_rfl) (by kernel_rfl) (fun _ _ _ h => h) (by kernel_rfl) (Or.inl ⟨by rfl, fun U hU => ?_⟩) hF ?_
      ·clear hU; go_simp
      try simp only [zgB]
      refine Till.take (i := 1) (v := (.slice ka kn kc)) rfl (by kernel_rfl) (by kernel_rfl) (by kernel_rfl) (fun _ _ _ h => h) (by kernel_rfl) (Or.inl ⟨by rfl, fun U hU => ?_⟩) hF ?_
      ·have u11 := hU.2.1 11 _ rfl; clear hU; go_simp
      try simp only [zgB]
      refine Till.take (i := 2) (v := (.pointer (some ⟨rb, 0, none⟩))) rfl (by kernel_rfl) (by kernel_rfl) (by kernel_rfl) (fun _ _ _ h => h) (by kernel_rfl) (Or.inl ⟨by rfl, fun U hU => ?_⟩) hF ?_
      ·clear hU; go_simp
      try simp only [zgB]
      refine Till.take (i := 3) (v := (.slice (some ⟨lb, lo, none⟩) l.length lc)) rfl (by kernel_rfl) (by kernel_rfl) (by kernel_rfl) (fun _ _ _ h => h) (by kernel_rfl) (Or.inl ⟨by rfl, fun U hU => ?_⟩) hF ?_
      ·clear hU; go_simp
      try simp only [zgB]
      refine Till.take (i := 4) (v := (.int .i64 deep)) rfl (by kernel_rfl) (by kernel_rfl) (by kernel_rfl) (fun _ _ _ h => h) (by kernel_rfl) (Or.inl ⟨by rfl, fun U hU => ?_⟩) hF ?_
      ·clear hU; go_simp
      try simp only [zgB]
      refine Till.take (i := 5) (v := (.int .i64 (deep - 1))) rfl (by kernel_rfl) (by kernel_rfl) (by kernel_rfl) (fun _ _ _ h => h) (by kernel_rfl) (Or.inl ⟨by rfl, fun U hU => ?_⟩) hF ?_
      ·clear hU; go_simp; exact wrap9 (by omega) (by omega)
      try simp only [zgB]
      refine Till.one (i := 6) (by kernel_rfl) rfl (fun K hK => ?_); go_simp; go_at_call 70; refine (ih l _ lf (deep - 1) rb q _ (by omega) (by omega) (by omega) (by omega) hl1 hl6 HL (by exact hrdv) hnr (by exact hr')).mono ?_; rintro e v1 ⟨⟨f, vf, ff, hwf, rfl, hrf, hff⟩, hr1, ho1⟩; obtain ⟨b3, d3, _, b5, d5, _, b6, d6, _, b7, d7, _, b11, d11, _, rfl, _, m0, m1, m2, m3, m4, m5, m6, m7, m8, m9⟩ := Fm.open hrf; clear m0 m1 m2 m3 m4 m5 m6 m7 m8 m9; have hfpl := hO'.lt; have hOb := fun b h => (hO'.block (b := b) h).2
      have hrfp : rb ∉ fp := fun h => by
       rcases hfp _ h with h1 | h1
       ·exact hnr h1
       ·omega
      replace hF : (fun U : World => Box [.int .i64 k, .int .i64 0, .string ⟨#[]⟩, .slice none 0 0, .string ⟨#[]⟩, .slice none 0 0, .slice none 0 0, .slice none 0 0, .int .i64 0, .bool false, .bool false, .slice ka kn kc] V U) v1 := hF.only ho1 (by omega); have hA1 := hA'.only ho1 (by omega); have hN1 := hN'.trans ho1; have hO1 := hO'.only ho1 (by omega) hrfp; have hz1 := ho1.size; have hffV : ∀ b ∈ ff, b ∈ lf ∨ v0.heap.size ≤ b := hff
      have hna : ∀ b ∈ ff, (Value.slice ka kn kc).ownBlock ≠ some b := fun b hb e => by
       rcases hffV b hb with h1 | h1
       ·have := hlfl b h1; have := (hO1.block e).1; omega
       ·have := hOb b e; omega
      clear hA' hr' hN' hO' hrdv ho1 hOb hff; refine hK.out _ _ (fun _ => hF) ?_; clear hK
      try simp only [zgB]
      refine Till.one (i := 7) (by kernel_rfl) rfl (fun K hK => ?_); go_simp
      have hcl : ∀ j u, ((yTl f b3 d3 b5 d5 b6 d6 b7 d7 b11 d11) : List Value)[j]? = some u → (v1.alloc (.cells (yTa f b3 d3 b5 d5 b6 d6 b7 d7 b11 d11) 36)).cell? ((⟨v1.heap.size, 0, none⟩ : Addr).add j) = some u := by exact zq v1 (yTl f b3 d3 b5 d5 b6 d6 b7 d7 b11 d11) 36
      replace hF : (fun U : World => Box [.int .i64 k, .int .i64 0, .string ⟨#[]⟩, .slice none 0 0, .string ⟨#[]⟩, .slice none 0 0, .slice none 0 0, .slice none 0 0, .int .i64 0, .bool false, .bool false, .slice ka kn kc] V U) _ := hF.alloc (.cells (yTa f b3 d3 b5 d5 b6 d6 b7 d7 b11 d11) 36); replace hA1 := hA1.alloc (.cells (yTa f b3 d3 b5 d5 b6 d6 b7 d7 b11 d11) 36); replace hr1 := hr1.alloc (.cells (yTa f b3 d3 b5 d5 b6 d6 b7 d7 b11 d11) 36); replace hN1 := hN1.alloc (.cells (yTa f b3 d3 b5 d5 b6 d6 b7 d7 b11 d11) 36); replace hO1 := hO1.below (zb _ (.cells (yTa f b3 d3 b5 d5 b6 d6 b7 d7 b11 d11) 36)); replace hrf := hrf.below (zb _ (.cells (yTa f b3 d3 b5 d5 b6 d6 b7 d7 b11 d11) 36))
      have hz2 : V + 1 ≤ (v1.alloc (.cells (yTa f b3 d3 b5 d5 b6 d6 b7 d7 b11 d11) 36)).heap.size := by rw [zgs]; omega
      generalize v1.alloc (.cells (yTa f b3 d3 b5 d5 b6 d6 b7 d7 b11 d11) 36) = v2 at *; refine hK.out _ _ (fun _ => hF) ?_; clear hK
      try simp only [zgB]
      refine Till.one (i := 8) (by kernel_rfl) rfl (fun K hK => ?_); refine zO zM rfl _ _ rfl (V + 1) _ _ _ rfl (by exact hO1) ⟨v1.heap.size, 0, none⟩ 1 1 [f.cd] (yTl f b3 d3 b5 d5 b6 d6 b7 d7 b11 d11) ff rfl rfl (by simpa using hrf) (by simp [Fm.cd_len]) (by exact hcl) hna (by rw [zgl]; omega) (by rw [zgl]; omega) (by omega) ?_; intro v' v5 hown5 hg5 hv5 hs5; have hrow : ∀ q, (Value.slice ka kn kc).ownBlock = some q → V + 1 ≤ q := fun q hq => (hO1.block hq).1; replace hF : (fun U : World => Box [.int .i64 k, .int .i64 0, .string ⟨#[]⟩, .slice none 0 0, .string ⟨#[]⟩, .slice none 0 0, .slice none 0 0, .slice none 0 0, .int .i64 0, .bool false, .bool false, .slice ka kn kc] V U) v5 := hF.grownB hg5 (fun q hq => by have := hrow q hq; omega); have hA5 := hA1.grownB hg5 (fun q hq => by have := hrow q hq; omega); have hr5 := hr1.grown hg5 (fun q hq => by have := hrow q hq; omega); have hN5 := hN1.grown hg5 (fun q hq => by have := hrow q hq; omega); have hz5 : V + 1 ≤ v5.heap.size := zgy hz2 hg5.size; obtain ⟨ka', kn', kc', rfl⟩ := hown5.form'
      have hfp5 : ∀ b ∈ fp ++ ff, b ∈ lf ∨ V < b := fun b hb => by
       rcases zgg.1 hb with h | h
       ·exact hfp b h
       ·rcases hffV b h with h1 | h1
        ·exact .inl h1
        ·exact .inr (by omega)
      have hVn : V ∉ fp ++ ff := fun h => by
       rcases hfp5 V h with h1 | h1
       ·have := hlfl V h1; omega
       ·omega
      have hVo : (Value.slice ka' kn' kc').ownBlock ≠ some V := fun e => by have := (hown5.block e).1; omega
      clear hg5 hv5 hs5 hO1 hrf hcl hrow hna hA1 hr1 hN1 hffV hfpl; refine hK.out _ _ (fun _ => hF) ?_; clear hK
      try simp only [zgB]
      refine Till.one (i := 9) (by kernel_rfl) rfl (fun K hK => ?_); go_simp; refine hK.out _ _ (fun _ => hF) ?_; clear hK
      try simp only [zgB]
      refine Till.one (i := 10) (by kernel_rfl) rfl (fun K hK => ?_); have k0 := hF.2.1 11 _ rfl; have k1 := hF.2.2 11; go_simp; refine hK.out _ _ (fun h => absurd h (by decide)) ?_; clear hK
      try simp only [zgB]
      refine Till.done (by kernel_rfl) ?_ _; have hV6 : Box [.int .i64 k, .int .i64 0, .string ⟨#[]⟩, .slice none 0 0, .string ⟨#[]⟩, .slice none 0 0, .slice none 0 0, .slice none 0 0, .int .i64 0, .bool false, .bool false, .slice ka' kn' kc'] V (v5.setCell ⟨V, 11, none⟩ (.slice ka' kn' kc')) := hF.put (k := 11) (by simp) _; have hA6 := hA5.sets_other (b := V) (.inl (by omega)) [(11, .slice ka' kn' kc')]; have hr6 := Rdr.sets (b := V) (by omega) [(11, .slice ka' kn' kc')] hr5; have hN6 := Only.setsR (b := V) (by omega) [(11, .slice ka' kn' kc')] hN5; have hO6 := hown5.set_ne (b := V) (j := 11) (u := .slice ka' kn' kc') hVn hVo; have hz6 := hV6.1; simp only [zi] at hA6 hr6 hN6; clear hF hA5 hr5 hN5 hown5 k0 k1; generalize v5.setCell ⟨V, 11, none⟩ (.slice ka' kn' kc') = W6 at *; have HW6 := zgn (kids_wt HWT.out hwf); obtain ⟨ks', hks⟩ : ∃ ks', ks' = ks ++ [f] := ⟨_, rfl⟩
      have hk1 : ks'.length = ks.length + 1 := by rw [hks]; simp
      have hO7 : Own W6 (V + 1) 36 12 (.slice ka' kn' kc') (ks'.map Fm.cd) (fp ++ ff) := by rw [hks, zgj]; exact hO6
      have HW7 : Hid (wtR (ks'.map Fm.cd) ≤ ks'.length * fcap n) := zgn (by rw [hks]; exact HW6.out)
      have hm2 : ks'.length * gcap n = ks.length * gcap n + gcap n := by rw [hk1]; exact Nat.succ_mul _ _
      have HK1 := zgn hk1
      have hk2 : ks'.length ≤ 2 := by omega
      clear hO6 hks HW6 hk1; go_wp2_with fail; go_roundw
      case rel => exact ⟨ks', _, fp ++ ff, q + gcap n, by rw [HK1.out]; go_num, hk2, by omega, HW7, hO7, hfp5, hV6, hA6, hr6, hN6, by omega⟩
      case measure => simp [intOf]; omega
     ·have hc1 : decide ((ks.length : Int) < Fm.nk k) = false := decide_eq_false hc
      have hA := hA3; have hN := hN3; have hRd := hr3; obtain ⟨xa, xc, hxe, _, _⟩ := hO3.form; rw [zgl] at hxe; simp only [Value.slice.injEq] at hxe; obtain ⟨rfl, rfl, rfl⟩ := hxe; obtain ⟨fz, hz, hq3⟩ := hO3.rd
      have hfz : ∀ b ∈ fz, b ≠ w.heap.size ∧ (b ∈ lf ∨ w.heap.size ≤ b) := fun b hb => by
       rcases hq3 with ⟨_, _, rfl⟩ | ⟨b', _, _, rfl, _, h2, _⟩
       ·simp at hb
       ·rcases zgk.1 hb with rfl | hb
        ·exact ⟨by omega, .inr (by omega)⟩
        ·rcases hfp b hb with h | h
         ·exact ⟨by have := hlfl b h; omega, .inl h⟩
         ·exact ⟨by omega, .inr (by omega)⟩
      have HCL := zgn (show RdVs w3 (Fm.mk k ⟨Atm.zero, false⟩ ks).cd [.int .i64 k, .int .i64 0, .string ⟨#[]⟩, .slice none 0 0, .string ⟨#[]⟩, .slice none 0 0, .slice none 0 0, .slice none 0 0, .int .i64 0, .bool false, .bool false, .slice ka ks.length kc] _ from Fm.close (x := Fm.mk k ⟨Atm.zero, false⟩ ks) (f3 := []) (f5 := []) (f6 := []) (f7 := []) hk64 (by unfold I64; simp [Fm.L, Atm.zero]) (zgx _) (zaF (cd := Tm.cd) none 0 (by simp)) (zgx _) (zaF (cd := Tm.cd) none 0 (by simp)) (zaF (cd := Tm.cd) none 0 (by simp)) (zaF (cd := zv) none 0 (by simp)) (by unfold I64; simp [Fm.L, Atm.zero]) hz); obtain ⟨cv0, cv1, cv2, cv3, cv4, cv5, cv6, cv7, cv8, cv9, cv10, cv11⟩ := yR12 hV3.2.1 rfl; obtain ⟨ca0, ca1, ca2, ca3, ca4, ca5, ca6, ca7, ca8, ca9, ca10, ca11⟩ := yR12 hA.2.1 rfl; obtain ⟨cf0, cf1, cf2, cf3, cf4, cf5, cf6, cf7, cf8, cf9, cf10, cf11⟩ := yQ12 hA.2.2; clear hA3 hN3 hr3 hO3 hz hq3; have g1 := hA.puts [.int .i64 k, .int .i64 0, .string ⟨#[]⟩, .slice none 0 0, .string ⟨#[]⟩, .slice none 0 0, .slice none 0 0, .slice none 0 0, .int .i64 0, .bool false, .bool false, .slice ka ks.length kc] rfl; have hK := (Same2.refl w.heap.size w.heap.size w3).sets (b := w.heap.size) (.inl rfl) (zd 0 [.int .i64 k, .int .i64 0, .string ⟨#[]⟩, .slice none 0 0, .string ⟨#[]⟩, .slice none 0 0, .slice none 0 0, .slice none 0 0, .int .i64 0, .bool false, .bool false, .slice ka ks.length kc]); have hO5 := Only.setsR (b := w.heap.size) (zgo _) (zd 0 [.int .i64 k, .int .i64 0, .string ⟨#[]⟩, .slice none 0 0, .string ⟨#[]⟩, .slice none 0 0, .slice none 0 0, .slice none 0 0, .int .i64 0, .bool false, .bool false, .slice ka ks.length kc]) hN; have hR9 := Rdr.sets (b := w.heap.size) (by omega) (zd 0 [.int .i64 k, .int .i64 0, .string ⟨#[]⟩, .slice none 0 0, .string ⟨#[]⟩, .slice none 0 0, .slice none 0 0, .slice none 0 0, .int .i64 0, .bool false, .bool false, .slice ka ks.length kc]) hRd; simp only [zd, zi, Nat.zero_add, Nat.reduceAdd] at g1 hK hO5 hR9; obtain ⟨ra0, ra1, ra2, ra3, ra4, ra5, ra6, ra7, ra8, ra9, ra10, ra11⟩ := yR12 g1.2.1 rfl; clear g1; go_wp2_with fail; refine bodyPost_ret (v := .agg #[.int .i64 k, .int .i64 0, .string ⟨#[]⟩, .slice none 0 0, .string ⟨#[]⟩, .slice none 0 0, .slice none 0 0, .slice none 0 0, .int .i64 0, .bool false, .bool false, .slice ka ks.length kc]) (by simp [results, Tryz.results70, go_sem, ra0, ra1, ra2, ra3, ra4, ra5, ra6, ra7, ra8, ra9, ra10, ra11]) rfl ?_; exact ⟨⟨Fm.mk k ⟨Atm.zero, false⟩ ks, _, _, by rw [inner_wt]; have h1 := HWT.out; have h2 := Nat.mul_le_mul_right (fcap n) hks2; omega, rfl, HCL.out.same2 hK (fun b hb => by have := (hfz b (by simpa using hb)).1; omega), fun b hb => (hfz b (by simpa using hb)).2⟩, hR9.mono (by have h2 := Nat.mul_le_mul_right (gcap n) hks2; omega), hO5⟩
end Go.Proofs.YtbfinjiledfpcaaGreat
end
