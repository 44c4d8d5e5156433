/- Parts of the proof: LitN. -/
import Derived.Test.YtoehhbkhdddeeaaDoorPl35
import Derived.Test.YtoehhbkhdddeeaaDoorPl34
import Derived.Test.YtoehhbkhdddeeaaDoorPl41
import Derived.Test.YtoehhbkhdddeeaaDoorPl33
section
namespace Go.Proofs.YtoehhbkhdddeeaaDoor
open Go Go.RowKit
set_option linter.unusedVariables false
set_option linter.unusedSimpArgs false
set_option maxRecDepth 100000
set_option maxHeartbeats 16000000
def Lt.zero : Lt := ⟨⟨0, .mk ⟨#[]⟩ [], .mk ⟨#[]⟩ [], [], [], 0, false⟩, false⟩
def Lt.not (x : Lt) : Lt := if x.atom.okB = true then ⟨x.atom, !x.no⟩ else Lt.zero
theorem Lt.not_yes {x : Lt} (h : x.atom.okB = true) : x.not = ⟨x.atom, !x.no⟩ := if_pos h
theorem Lt.not_no {x : Lt} (h : x.atom.okB = false) : x.not = Lt.zero := by unfold Lt.not; rw [h]; rfl
theorem Lt.zero_rd (w : World) : RdVs w Lt.zero.cd [.int .i64 0, .string ⟨#[]⟩, .slice none 0 0, .string ⟨#[]⟩, .slice none 0 0, .slice none 0 0, .slice none 0 0, .int .i64 0, .bool false, .bool false] [] := by
 have h := (Atm.close (w := w) (x := Lt.zero.atom) (a2 := none) (c2 := 0) (f2 := []) (a4 := none) (c4 := 0) (f4 := []) (a5 := none) (c5 := 0) (f5 := []) (a6 := none) (c6 := 0) (f6 := []) (by simp [I64, Lt.zero]) (Nat.zero_le _) (zbx w Tm.cd) (Nat.zero_le _) (zbx w Tm.cd) (zbx w Tm.cd) (zbx w zg) (by simp [I64, Lt.zero])).app (zac (b := false))
 exact h
theorem zbe (x : Lt) (vs : List Value) (f : List Nat) (w : World) (hbig : x.atom.small) (hbt : x.atom.times.length ≤ 1048576) (hv : RdVs w x.cd vs f) :
  Calls Tryd.prog 7 #[.agg vs.toArray] w (zbQ x.not.cd w) := by
 obtain ⟨a2, c2, f2, a4, c4, f4, a5, c5, f5, a6, c6, f6, rfl, _, m0, m1, m2, m3, m4, m5, m6, m7⟩ := Lt.open hv
 have hat := Atm.close m0 m1 m2 m3 m4 m5 m6 m7
 go_enter Tryd.func7, Tryd.ntmps7
 go_wp2_with fail
 refine (zaG x.atom _ _ _ hbig (by exact hat.below ((zc _ _).alloc (by simp) _))).mono ?_
 rintro e w1 ⟨rfl, hb⟩
 have hb1 := zH (n := w.heap.size + 1 + 1) hb (by simp)
 obtain ⟨hx, hy, hz, hB⟩ := box2 (w := w) (cs := #[.int .i64 x.atom.kind, .string x.atom.a.name, .slice a2 x.atom.a.kids.length c2, .string x.atom.b.name, .slice a4 x.atom.b.kids.length c4, .slice a5 x.atom.nums.length c5, .slice a6 x.atom.times.length c6, .int .i64 x.atom.bound, .bool x.atom.strict, .bool x.no]) (ds := #[.int .i64 0, .string ⟨#[]⟩, .slice none 0 0, .string ⟨#[]⟩, .slice none 0 0, .slice none 0 0, .slice none 0 0, .int .i64 0, .bool false, .bool false]) (T := 30) (U := 30) hb1
 have hf2 := fun j => (zE hb1 j).2
 clear hb hb1
 have C0 := hx 0
 have C1 := hx 1
 have C2 := hx 2
 have C3 := hx 3
 have C4 := hx 4
 have C5 := hx 5
 have C6 := hx 6
 have C7 := hx 7
 have C8 := hx 8
 have C9 := hx 9
 simp only [zcb, zb9, zca] at C0 C1 C2 C3 C4 C5 C6 C7 C8 C9
 cases hk : x.atom.okB
 ·have HT := Lib.hid (Lt.not_no hk)
  clear hk
  have hrx := Lt.zero_rd w1
  have hfx : Fresh (w.heap.size + 1 + 1) w1 [] := Fresh.nil _ _
  have Y0 := hy 0
  have Z0 := hf2 0
  have Y1 := hy 1
  have Z1 := hf2 1
  have Y2 := hy 2
  have Z2 := hf2 2
  have Y3 := hy 3
  have Z3 := hf2 3
  have Y4 := hy 4
  have Z4 := hf2 4
  have Y5 := hy 5
  have Z5 := hf2 5
  have Y6 := hy 6
  have Z6 := hf2 6
  have Y7 := hy 7
  have Z7 := hf2 7
  have Y8 := hy 8
  have Z8 := hf2 8
  have Y9 := hy 9
  have Z9 := hf2 9
  simp only [zcb, zb9, zca] at Y0 Y1 Y2 Y3 Y4 Y5 Y6 Y7 Y8 Y9
  have hres := zI (b := w.heap.size + 1) [(0, .int .i64 0), (1, .string ⟨#[]⟩), (2, .slice none 0 0), (3, .string ⟨#[]⟩), (4, .slice none 0 0), (5, .slice none 0 0), (6, .slice none 0 0), (7, .int .i64 0), (8, .bool false), (9, .bool false)] hy (by simp)
  have R0 := hres 0
  have R1 := hres 1
  have R2 := hres 2
  have R3 := hres 3
  have R4 := hres 4
  have R5 := hres 5
  have R6 := hres 6
  have R7 := hres 7
  have R8 := hres 8
  have R9 := hres 9
  simp only [zi, zaq, zb7, zb8, zcb, zb9, zca] at R0 R1 R2 R3 R4 R5 R6 R7 R8 R9
  clear hres hy hf2
  have hL2 := Loc.sets (b := w.heap.size + 1) (lo := w.heap.size) (hi := w.heap.size + 1 + 1) (by omega) (by omega) [(0, .int .i64 0), (1, .string ⟨#[]⟩), (2, .slice none 0 0), (3, .string ⟨#[]⟩), (4, .slice none 0 0), (5, .slice none 0 0), (6, .slice none 0 0), (7, .int .i64 0), (8, .bool false), (9, .bool false)] (Loc.refl _ _ w1)
  have hB2 := hB.trans (hL2.toBelow (B := w.heap.size) (by omega) (Nat.le_refl _))
  have hr2 := hrx.same _ (hL2.same (w0 := w) hfx)
  have hf2x := hfx.same (hL2.same (w0 := w) hfx)
  simp only [zi] at hB2 hr2 hf2x
  clear hL2
  go_wp2_with fail
  refine bodyPost_ret (v := .agg #[.int .i64 0, .string ⟨#[]⟩, .slice none 0 0, .string ⟨#[]⟩, .slice none 0 0, .slice none 0 0, .slice none 0 0, .int .i64 0, .bool false, .bool false]) (by simp [results, Tryd.results7, go_sem, R0, R1, R2, R3, R4, R5, R6, R7, R8, R9]) rfl ?_
  exact ⟨[.int .i64 0, .string ⟨#[]⟩, .slice none 0 0, .string ⟨#[]⟩, .slice none 0 0, .slice none 0 0, .slice none 0 0, .int .i64 0, .bool false, .bool false], _, rfl, by rw [HT.out]; exact hr2, hf2x.mono (by omega), hB2⟩
 have HT := Lib.hid (Lt.not_yes hk)
 clear hk
 have hF : (fun U : World => (U.cell? ⟨w.heap.size, 0, none⟩ = some (.int .i64 x.atom.kind) ∧ U.cell? ⟨w.heap.size, 1, none⟩ = some (.string x.atom.a.name) ∧ U.cell? ⟨w.heap.size, 2, none⟩ = some (.slice a2 x.atom.a.kids.length c2) ∧ U.cell? ⟨w.heap.size, 3, none⟩ = some (.string x.atom.b.name) ∧ U.cell? ⟨w.heap.size, 4, none⟩ = some (.slice a4 x.atom.b.kids.length c4) ∧ U.cell? ⟨w.heap.size, 5, none⟩ = some (.slice a5 x.atom.nums.length c5) ∧ U.cell? ⟨w.heap.size, 6, none⟩ = some (.slice a6 x.atom.times.length c6) ∧ U.cell? ⟨w.heap.size, 7, none⟩ = some (.int .i64 x.atom.bound) ∧ U.cell? ⟨w.heap.size, 8, none⟩ = some (.bool x.atom.strict) ∧ U.cell? ⟨w.heap.size, 9, none⟩ = some (.bool x.no))) w1.drew := ⟨C0, C1, C2, C3, C4, C5, C6, C7, C8, C9⟩
 go_wp2_with fail
 refine Till.start (F := fun U => (U.cell? ⟨w.heap.size, 0, none⟩ = some (.int .i64 x.atom.kind) ∧ U.cell? ⟨w.heap.size, 1, none⟩ = some (.string x.atom.a.name) ∧ U.cell? ⟨w.heap.size, 2, none⟩ = some (.slice a2 x.atom.a.kids.length c2) ∧ U.cell? ⟨w.heap.size, 3, none⟩ = some (.string x.atom.b.name) ∧ U.cell? ⟨w.heap.size, 4, none⟩ = some (.slice a4 x.atom.b.kids.length c4) ∧ U.cell? ⟨w.heap.size, 5, none⟩ = some (.slice a5 x.atom.nums.length c5) ∧ U.cell? ⟨w.heap.size, 6, none⟩ = some (.slice a6 x.atom.times.length c6) ∧ U.cell? ⟨w.heap.size, 7, none⟩ = some (.int .i64 x.atom.bound) ∧ U.cell? ⟨w.heap.size, 8, none⟩ = some (.bool x.atom.strict) ∧ U.cell? ⟨w.heap.size, 9, none⟩ = some (.bool x.no))) (s0 := 7) (by kernel_rfl) ?_
 clear C0 C1 C2 C3 C4 C5 C6 C7 C8 C9 hx
 replace hy : ∀ j, w1.drew.cell? ⟨w.heap.size + 1, j, none⟩ = (#[.int .i64 0, .string ⟨#[]⟩, .slice none 0 0, .string ⟨#[]⟩, .slice none 0 0, .slice none 0 0, .slice none 0 0, .int .i64 0, .bool false, .bool false] : Array Value)[j]? := hy
 replace hf2 : ∀ j, w1.drew.frozen? ⟨w.heap.size + 1, j, none⟩ = false := hf2
 replace hz : w.heap.size + 1 + 1 ≤ w1.drew.heap.size := hz
 have hBc := hB.drew
 clear hB
 obtain ⟨vv, hV⟩ : ∃ v, v = w1.drew := ⟨_, rfl⟩
 rw [← hV] at hy hz hBc hf2 hF ⊢
 clear hV
 refine Till.take (i := 0) (v := .pointer (some ⟨w.heap.size, 0, none⟩)) rfl (by kernel_rfl) (by kernel_rfl) (by kernel_rfl) (fun _ _ _ h => h) (by kernel_rfl) (Or.inl ⟨by rfl, fun U hU => ?_⟩) hF ?_
 ·obtain ⟨g0, g1, g2, g3, g4, g5, g6, g7, g8, g9⟩ := hU
  go_simp
 try simp only [Act.put, zb6, zb7, zb8]
 refine Till.take (i := 1) (v := .agg #[.int .i64 x.atom.kind, .string x.atom.a.name, .slice a2 x.atom.a.kids.length c2, .string x.atom.b.name, .slice a4 x.atom.b.kids.length c4, .slice a5 x.atom.nums.length c5, .slice a6 x.atom.times.length c6, .int .i64 x.atom.bound, .bool x.atom.strict]) rfl (by kernel_rfl) (by kernel_rfl) (by kernel_rfl) (fun _ _ _ h => h) (by kernel_rfl) (Or.inl ⟨by rfl, fun U hU => ?_⟩) hF ?_
 ·obtain ⟨g0, g1, g2, g3, g4, g5, g6, g7, g8, g9⟩ := hU
  go_simp
 try simp only [Act.put, zb6, zb7, zb8]
 refine Till.take (i := 3) (v := .pointer (some ⟨w.heap.size, 9, none⟩)) rfl (by kernel_rfl) (by kernel_rfl) (by kernel_rfl) (fun _ _ _ h => h) (by kernel_rfl) (Or.inl ⟨by rfl, fun U hU => ?_⟩) hF ?_
 ·obtain ⟨g0, g1, g2, g3, g4, g5, g6, g7, g8, g9⟩ := hU
  go_simp
 try simp only [Act.put, zb6, zb7, zb8]
 refine Till.take (i := 4) (v := .bool x.no) rfl (by kernel_rfl) (by kernel_rfl) (by kernel_rfl) (fun _ _ _ h => h) (by kernel_rfl) (Or.inl ⟨by rfl, fun U hU => ?_⟩) hF ?_
 ·obtain ⟨g0, g1, g2, g3, g4, g5, g6, g7, g8, g9⟩ := hU
  go_simp
 try simp only [Act.put, zb6, zb7, zb8]
 refine Till.free (i := 5) (v := .bool (!x.no)) rfl (by kernel_rfl) (by kernel_rfl) (by kernel_rfl) (fun _ _ _ h => h) (by kernel_rfl) (Or.inl ⟨by rfl, fun U _ => ?_⟩) (fun _ => hF) ?_
 ·go_simp
 try simp only [Act.put, zb6, zb7, zb8]
 refine Till.one (i := 2) (by kernel_rfl) rfl (fun K hK => ?_)
 go_simp
 go_wp2_with (go_at_call 25; refine (zbJ x.atom _ _ _ hbig hbt (by exact hat.below hBc)).mono ?_; rintro e v1 ⟨us, fp, rfl, hr, hf, hb⟩)
 obtain ⟨d2, e2, h2, d4, e4, h4, d5, e5, h5, d6, e6, h6, rfl, _, _, _, _, _, _, _, _, _⟩ := Atm.open hr
 have hzn := hb.size
 replace hBc := hBc.trans (hb.mono (by omega))
 replace hF : (fun U : World => (U.cell? ⟨w.heap.size, 0, none⟩ = some (.int .i64 x.atom.kind) ∧ U.cell? ⟨w.heap.size, 1, none⟩ = some (.string x.atom.a.name) ∧ U.cell? ⟨w.heap.size, 2, none⟩ = some (.slice a2 x.atom.a.kids.length c2) ∧ U.cell? ⟨w.heap.size, 3, none⟩ = some (.string x.atom.b.name) ∧ U.cell? ⟨w.heap.size, 4, none⟩ = some (.slice a4 x.atom.b.kids.length c4) ∧ U.cell? ⟨w.heap.size, 5, none⟩ = some (.slice a5 x.atom.nums.length c5) ∧ U.cell? ⟨w.heap.size, 6, none⟩ = some (.slice a6 x.atom.times.length c6) ∧ U.cell? ⟨w.heap.size, 7, none⟩ = some (.int .i64 x.atom.bound) ∧ U.cell? ⟨w.heap.size, 8, none⟩ = some (.bool x.atom.strict) ∧ U.cell? ⟨w.heap.size, 9, none⟩ = some (.bool x.no))) v1 := ⟨za hF.1 hb, za hF.2.1 hb, za hF.2.2.1 hb, za hF.2.2.2.1 hb, za hF.2.2.2.2.1 hb, za hF.2.2.2.2.2.1 hb, za hF.2.2.2.2.2.2.1 hb, za hF.2.2.2.2.2.2.2.1 hb, za hF.2.2.2.2.2.2.2.2.1 hb, za hF.2.2.2.2.2.2.2.2.2 hb⟩
 replace hy := zb hy (by omega) hb
 replace hf2 := ze hf2 (by omega) hb
 have hfx : Fresh (w.heap.size + 1 + 1) v1 fp := hf.mono (by omega)
 have hrx := hr.app (zac (b := !x.no))
 simp only [List.append_nil, List.cons_append, List.nil_append] at hrx
 clear hb hr hf
 refine hK.out _ _ (fun _ => hF) ?_
 clear hK
 try simp only [Act.put, zb6, zb7, zb8]
 refine Till.free (i := 6) (v := .agg #[.int .i64 x.atom.kind, .string x.atom.a.name, .slice d2 x.atom.a.kids.length e2, .string x.atom.b.name, .slice d4 x.atom.b.kids.length e4, .slice d5 x.atom.nums.length e5, .slice d6 x.atom.times.length e6, .int .i64 x.atom.bound, .bool x.atom.strict, .bool (!x.no)]) rfl (by kernel_rfl) (by kernel_rfl) (by kernel_rfl) (fun _ _ _ h => h) (by kernel_rfl) (Or.inl ⟨by rfl, fun U _ => ?_⟩) (fun _ => hF) ?_
 ·go_simp
 try simp only [Act.put, zb6, zb7, zb8]
 refine Till.one (i := 7) (by kernel_rfl) rfl (fun K hK => ?_)
 have Y0 := hy 0
 have Z0 := hf2 0
 have Y1 := hy 1
 have Z1 := hf2 1
 have Y2 := hy 2
 have Z2 := hf2 2
 have Y3 := hy 3
 have Z3 := hf2 3
 have Y4 := hy 4
 have Z4 := hf2 4
 have Y5 := hy 5
 have Z5 := hf2 5
 have Y6 := hy 6
 have Z6 := hf2 6
 have Y7 := hy 7
 have Z7 := hf2 7
 have Y8 := hy 8
 have Z8 := hf2 8
 have Y9 := hy 9
 have Z9 := hf2 9
 simp only [zcb, zb9, zca] at Y0 Y1 Y2 Y3 Y4 Y5 Y6 Y7 Y8 Y9
 have hres := zI (b := w.heap.size + 1) [(0, .int .i64 x.atom.kind), (1, .string x.atom.a.name), (2, .slice d2 x.atom.a.kids.length e2), (3, .string x.atom.b.name), (4, .slice d4 x.atom.b.kids.length e4), (5, .slice d5 x.atom.nums.length e5), (6, .slice d6 x.atom.times.length e6), (7, .int .i64 x.atom.bound), (8, .bool x.atom.strict), (9, .bool (!x.no))] hy (by simp)
 have R0 := hres 0
 have R1 := hres 1
 have R2 := hres 2
 have R3 := hres 3
 have R4 := hres 4
 have R5 := hres 5
 have R6 := hres 6
 have R7 := hres 7
 have R8 := hres 8
 have R9 := hres 9
 simp only [zi, zaq, zb7, zb8, zcb, zb9, zca] at R0 R1 R2 R3 R4 R5 R6 R7 R8 R9
 clear hres hy hf2
 have hL2 := Loc.sets (b := w.heap.size + 1) (lo := w.heap.size) (hi := w.heap.size + 1 + 1) (by omega) (by omega) [(0, .int .i64 x.atom.kind), (1, .string x.atom.a.name), (2, .slice d2 x.atom.a.kids.length e2), (3, .string x.atom.b.name), (4, .slice d4 x.atom.b.kids.length e4), (5, .slice d5 x.atom.nums.length e5), (6, .slice d6 x.atom.times.length e6), (7, .int .i64 x.atom.bound), (8, .bool x.atom.strict), (9, .bool (!x.no))] (Loc.refl _ _ v1)
 have hB2 := hBc.trans (hL2.toBelow (B := w.heap.size) (by omega) (Nat.le_refl _))
 have hr2 := hrx.same _ (hL2.same (w0 := w) hfx)
 have hf2x := hfx.same (hL2.same (w0 := w) hfx)
 simp only [zi] at hB2 hr2 hf2x
 clear hL2
 go_simp
 refine hK.out _ _ (fun h => absurd h (by decide)) ?_
 clear hK
 try simp only [Act.put, zb6, zb7, zb8]
 refine Till.done (by kernel_rfl) ?_ _
 go_wp2_with fail
 refine bodyPost_ret (v := .agg #[.int .i64 x.atom.kind, .string x.atom.a.name, .slice d2 x.atom.a.kids.length e2, .string x.atom.b.name, .slice d4 x.atom.b.kids.length e4, .slice d5 x.atom.nums.length e5, .slice d6 x.atom.times.length e6, .int .i64 x.atom.bound, .bool x.atom.strict, .bool (!x.no)]) (by simp [results, Tryd.results7, go_sem, R0, R1, R2, R3, R4, R5, R6, R7, R8, R9]) rfl ?_
 exact ⟨[.int .i64 x.atom.kind, .string x.atom.a.name, .slice d2 x.atom.a.kids.length e2, .string x.atom.b.name, .slice d4 x.atom.b.kids.length e4, .slice d5 x.atom.nums.length e5, .slice d6 x.atom.times.length e6, .int .i64 x.atom.bound, .bool x.atom.strict, .bool (!x.no)], _, rfl, by rw [HT.out]; exact hr2, hf2x.mono (by omega), hB2⟩
theorem zbL (x : Lt) (vs : List Value) (f : List Nat) (w : World) (hbig : x.atom.small) (hbt : x.atom.times.length ≤ 1048576) (hv : RdVs w x.cd vs f) :
  Calls Tryd.prog 8 #[.agg vs.toArray] w (zbQ x.not.cd w) := by
 obtain ⟨a2, c2, f2, a4, c4, f4, a5, c5, f5, a6, c6, f6, rfl, _, m0, m1, m2, m3, m4, m5, m6, m7⟩ := Lt.open hv
 have hat := Atm.close m0 m1 m2 m3 m4 m5 m6 m7
 go_enter Tryd.func8, Tryd.ntmps8
 go_wp2_with fail
 refine (za0 x.atom _ _ _ hbig (by exact hat.below ((zc _ _).alloc (by simp) _))).mono ?_
 rintro e w1 ⟨rfl, hb⟩
 have hb1 := zH (n := w.heap.size + 1 + 1) hb (by simp)
 obtain ⟨hx, hy, hz, hB⟩ := box2 (w := w) (cs := #[.int .i64 x.atom.kind, .string x.atom.a.name, .slice a2 x.atom.a.kids.length c2, .string x.atom.b.name, .slice a4 x.atom.b.kids.length c4, .slice a5 x.atom.nums.length c5, .slice a6 x.atom.times.length c6, .int .i64 x.atom.bound, .bool x.atom.strict, .bool x.no]) (ds := #[.int .i64 0, .string ⟨#[]⟩, .slice none 0 0, .string ⟨#[]⟩, .slice none 0 0, .slice none 0 0, .slice none 0 0, .int .i64 0, .bool false, .bool false]) (T := 30) (U := 30) hb1
 have hf2 := fun j => (zE hb1 j).2
 clear hb hb1
 have C0 := hx 0
 have C1 := hx 1
 have C2 := hx 2
 have C3 := hx 3
 have C4 := hx 4
 have C5 := hx 5
 have C6 := hx 6
 have C7 := hx 7
 have C8 := hx 8
 have C9 := hx 9
 simp only [zcb, zb9, zca] at C0 C1 C2 C3 C4 C5 C6 C7 C8 C9
 cases hk : x.atom.okB
 ·have HT := Lib.hid (Lt.not_no hk)
  clear hk
  have hrx := Lt.zero_rd w1
  have hfx : Fresh (w.heap.size + 1 + 1) w1 [] := Fresh.nil _ _
  have Y0 := hy 0
  have Z0 := hf2 0
  have Y1 := hy 1
  have Z1 := hf2 1
  have Y2 := hy 2
  have Z2 := hf2 2
  have Y3 := hy 3
  have Z3 := hf2 3
  have Y4 := hy 4
  have Z4 := hf2 4
  have Y5 := hy 5
  have Z5 := hf2 5
  have Y6 := hy 6
  have Z6 := hf2 6
  have Y7 := hy 7
  have Z7 := hf2 7
  have Y8 := hy 8
  have Z8 := hf2 8
  have Y9 := hy 9
  have Z9 := hf2 9
  simp only [zcb, zb9, zca] at Y0 Y1 Y2 Y3 Y4 Y5 Y6 Y7 Y8 Y9
  have hres := zI (b := w.heap.size + 1) [(0, .int .i64 0), (1, .string ⟨#[]⟩), (2, .slice none 0 0), (3, .string ⟨#[]⟩), (4, .slice none 0 0), (5, .slice none 0 0), (6, .slice none 0 0), (7, .int .i64 0), (8, .bool false), (9, .bool false)] hy (by simp)
  have R0 := hres 0
  have R1 := hres 1
  have R2 := hres 2
  have R3 := hres 3
  have R4 := hres 4
  have R5 := hres 5
  have R6 := hres 6
  have R7 := hres 7
  have R8 := hres 8
  have R9 := hres 9
  simp only [zi, zaq, zb7, zb8, zcb, zb9, zca] at R0 R1 R2 R3 R4 R5 R6 R7 R8 R9
  clear hres hy hf2
  have hL2 := Loc.sets (b := w.heap.size + 1) (lo := w.heap.size) (hi := w.heap.size + 1 + 1) (by omega) (by omega) [(0, .int .i64 0), (1, .string ⟨#[]⟩), (2, .slice none 0 0), (3, .string ⟨#[]⟩), (4, .slice none 0 0), (5, .slice none 0 0), (6, .slice none 0 0), (7, .int .i64 0), (8, .bool false), (9, .bool false)] (Loc.refl _ _ w1)
  have hB2 := hB.trans (hL2.toBelow (B := w.heap.size) (by omega) (Nat.le_refl _))
  have hr2 := hrx.same _ (hL2.same (w0 := w) hfx)
  have hf2x := hfx.same (hL2.same (w0 := w) hfx)
  simp only [zi] at hB2 hr2 hf2x
  clear hL2
  go_wp2_with fail
  refine bodyPost_ret (v := .agg #[.int .i64 0, .string ⟨#[]⟩, .slice none 0 0, .string ⟨#[]⟩, .slice none 0 0, .slice none 0 0, .slice none 0 0, .int .i64 0, .bool false, .bool false]) (by simp [results, Tryd.results8, go_sem, R0, R1, R2, R3, R4, R5, R6, R7, R8, R9]) rfl ?_
  exact ⟨[.int .i64 0, .string ⟨#[]⟩, .slice none 0 0, .string ⟨#[]⟩, .slice none 0 0, .slice none 0 0, .slice none 0 0, .int .i64 0, .bool false, .bool false], _, rfl, by rw [HT.out]; exact hr2, hf2x.mono (by omega), hB2⟩
 have HT := Lib.hid (Lt.not_yes hk)
 clear hk
 have hF : (fun U : World => (U.cell? ⟨w.heap.size, 0, none⟩ = some (.int .i64 x.atom.kind) ∧ U.cell? ⟨w.heap.size, 1, none⟩ = some (.string x.atom.a.name) ∧ U.cell? ⟨w.heap.size, 2, none⟩ = some (.slice a2 x.atom.a.kids.length c2) ∧ U.cell? ⟨w.heap.size, 3, none⟩ = some (.string x.atom.b.name) ∧ U.cell? ⟨w.heap.size, 4, none⟩ = some (.slice a4 x.atom.b.kids.length c4) ∧ U.cell? ⟨w.heap.size, 5, none⟩ = some (.slice a5 x.atom.nums.length c5) ∧ U.cell? ⟨w.heap.size, 6, none⟩ = some (.slice a6 x.atom.times.length c6) ∧ U.cell? ⟨w.heap.size, 7, none⟩ = some (.int .i64 x.atom.bound) ∧ U.cell? ⟨w.heap.size, 8, none⟩ = some (.bool x.atom.strict) ∧ U.cell? ⟨w.heap.size, 9, none⟩ = some (.bool x.no))) w1.drew := ⟨C0, C1, C2, C3, C4, C5, C6, C7, C8, C9⟩
 go_wp2_with fail
 refine Till.start (F := fun U => (U.cell? ⟨w.heap.size, 0, none⟩ = some (.int .i64 x.atom.kind) ∧ U.cell? ⟨w.heap.size, 1, none⟩ = some (.string x.atom.a.name) ∧ U.cell? ⟨w.heap.size, 2, none⟩ = some (.slice a2 x.atom.a.kids.length c2) ∧ U.cell? ⟨w.heap.size, 3, none⟩ = some (.string x.atom.b.name) ∧ U.cell? ⟨w.heap.size, 4, none⟩ = some (.slice a4 x.atom.b.kids.length c4) ∧ U.cell? ⟨w.heap.size, 5, none⟩ = some (.slice a5 x.atom.nums.length c5) ∧ U.cell? ⟨w.heap.size, 6, none⟩ = some (.slice a6 x.atom.times.length c6) ∧ U.cell? ⟨w.heap.size, 7, none⟩ = some (.int .i64 x.atom.bound) ∧ U.cell? ⟨w.heap.size, 8, none⟩ = some (.bool x.atom.strict) ∧ U.cell? ⟨w.heap.size, 9, none⟩ = some (.bool x.no))) (s0 := 7) (by kernel_rfl) ?_
 clear C0 C1 C2 C3 C4 C5 C6 C7 C8 C9 hx
 replace hy : ∀ j, w1.drew.cell? ⟨w.heap.size + 1, j, none⟩ = (#[.int .i64 0, .string ⟨#[]⟩, .slice none 0 0, .string ⟨#[]⟩, .slice none 0 0, .slice none 0 0, .slice none 0 0, .int .i64 0, .bool false, .bool false] : Array Value)[j]? := hy
 replace hf2 : ∀ j, w1.drew.frozen? ⟨w.heap.size + 1, j, none⟩ = false := hf2
 replace hz : w.heap.size + 1 + 1 ≤ w1.drew.heap.size := hz
 have hBc := hB.drew
 clear hB
 obtain ⟨vv, hV⟩ : ∃ v, v = w1.drew := ⟨_, rfl⟩
 rw [← hV] at hy hz hBc hf2 hF ⊢
 clear hV
 refine Till.take (i := 0) (v := .pointer (some ⟨w.heap.size, 0, none⟩)) rfl (by kernel_rfl) (by kernel_rfl) (by kernel_rfl) (fun _ _ _ h => h) (by kernel_rfl) (Or.inl ⟨by rfl, fun U hU => ?_⟩) hF ?_
 ·obtain ⟨g0, g1, g2, g3, g4, g5, g6, g7, g8, g9⟩ := hU
  go_simp
 try simp only [Act.put, zb6, zb7, zb8]
 refine Till.take (i := 1) (v := .agg #[.int .i64 x.atom.kind, .string x.atom.a.name, .slice a2 x.atom.a.kids.length c2, .string x.atom.b.name, .slice a4 x.atom.b.kids.length c4, .slice a5 x.atom.nums.length c5, .slice a6 x.atom.times.length c6, .int .i64 x.atom.bound, .bool x.atom.strict]) rfl (by kernel_rfl) (by kernel_rfl) (by kernel_rfl) (fun _ _ _ h => h) (by kernel_rfl) (Or.inl ⟨by rfl, fun U hU => ?_⟩) hF ?_
 ·obtain ⟨g0, g1, g2, g3, g4, g5, g6, g7, g8, g9⟩ := hU
  go_simp
 try simp only [Act.put, zb6, zb7, zb8]
 refine Till.take (i := 3) (v := .pointer (some ⟨w.heap.size, 9, none⟩)) rfl (by kernel_rfl) (by kernel_rfl) (by kernel_rfl) (fun _ _ _ h => h) (by kernel_rfl) (Or.inl ⟨by rfl, fun U hU => ?_⟩) hF ?_
 ·obtain ⟨g0, g1, g2, g3, g4, g5, g6, g7, g8, g9⟩ := hU
  go_simp
 try simp only [Act.put, zb6, zb7, zb8]
 refine Till.take (i := 4) (v := .bool x.no) rfl (by kernel_rfl) (by kernel_rfl) (by kernel_rfl) (fun _ _ _ h => h) (by kernel_rfl) (Or.inl ⟨by rfl, fun U hU => ?_⟩) hF ?_
 ·obtain ⟨g0, g1, g2, g3, g4, g5, g6, g7, g8, g9⟩ := hU
  go_simp
 try simp only [Act.put, zb6, zb7, zb8]
 refine Till.free (i := 5) (v := .bool (!x.no)) rfl (by kernel_rfl) (by kernel_rfl) (by kernel_rfl) (fun _ _ _ h => h) (by kernel_rfl) (Or.inl ⟨by rfl, fun U _ => ?_⟩) (fun _ => hF) ?_
 ·go_simp
 try simp only [Act.put, zb6, zb7, zb8]
 refine Till.one (i := 2) (by kernel_rfl) rfl (fun K hK => ?_)
 go_simp
 go_wp2_with (go_at_call 27; refine (zb4 x.atom _ _ _ hbig hbt (by exact hat.below hBc)).mono ?_; rintro e v1 ⟨us, fp, rfl, hr, hf, hb⟩)
 obtain ⟨d2, e2, h2, d4, e4, h4, d5, e5, h5, d6, e6, h6, rfl, _, _, _, _, _, _, _, _, _⟩ := Atm.open hr
 have hzn := hb.size
 replace hBc := hBc.trans (hb.mono (by omega))
 replace hF : (fun U : World => (U.cell? ⟨w.heap.size, 0, none⟩ = some (.int .i64 x.atom.kind) ∧ U.cell? ⟨w.heap.size, 1, none⟩ = some (.string x.atom.a.name) ∧ U.cell? ⟨w.heap.size, 2, none⟩ = some (.slice a2 x.atom.a.kids.length c2) ∧ U.cell? ⟨w.heap.size, 3, none⟩ = some (.string x.atom.b.name) ∧ U.cell? ⟨w.heap.size, 4, none⟩ = some (.slice a4 x.atom.b.kids.length c4) ∧ U.cell? ⟨w.heap.size, 5, none⟩ = some (.slice a5 x.atom.nums.length c5) ∧ U.cell? ⟨w.heap.size, 6, none⟩ = some (.slice a6 x.atom.times.length c6) ∧ U.cell? ⟨w.heap.size, 7, none⟩ = some (.int .i64 x.atom.bound) ∧ U.cell? ⟨w.heap.size, 8, none⟩ = some (.bool x.atom.strict) ∧ U.cell? ⟨w.heap.size, 9, none⟩ = some (.bool x.no))) v1 := ⟨za hF.1 hb, za hF.2.1 hb, za hF.2.2.1 hb, za hF.2.2.2.1 hb, za hF.2.2.2.2.1 hb, za hF.2.2.2.2.2.1 hb, za hF.2.2.2.2.2.2.1 hb, za hF.2.2.2.2.2.2.2.1 hb, za hF.2.2.2.2.2.2.2.2.1 hb, za hF.2.2.2.2.2.2.2.2.2 hb⟩
 replace hy := zb hy (by omega) hb
 replace hf2 := ze hf2 (by omega) hb
 have hfx : Fresh (w.heap.size + 1 + 1) v1 fp := hf.mono (by omega)
 have hrx := hr.app (zac (b := !x.no))
 simp only [List.append_nil, List.cons_append, List.nil_append] at hrx
 clear hb hr hf
 refine hK.out _ _ (fun _ => hF) ?_
 clear hK
 try simp only [Act.put, zb6, zb7, zb8]
 refine Till.free (i := 6) (v := .agg #[.int .i64 x.atom.kind, .string x.atom.a.name, .slice d2 x.atom.a.kids.length e2, .string x.atom.b.name, .slice d4 x.atom.b.kids.length e4, .slice d5 x.atom.nums.length e5, .slice d6 x.atom.times.length e6, .int .i64 x.atom.bound, .bool x.atom.strict, .bool (!x.no)]) rfl (by kernel_rfl) (by kernel_rfl) (by kernel_rfl) (fun _ _ _ h => h) (by kernel_rfl) (Or.inl ⟨by rfl, fun U _ => ?_⟩) (fun _ => hF) ?_
 ·go_simp
 try simp only [Act.put, zb6, zb7, zb8]
 refine Till.one (i := 7) (by kernel_rfl) rfl (fun K hK => ?_)
 have Y0 := hy 0
 have Z0 := hf2 0
 have Y1 := hy 1
 have Z1 := hf2 1
 have Y2 := hy 2
 have Z2 := hf2 2
 have Y3 := hy 3
 have Z3 := hf2 3
 have Y4 := hy 4
 have Z4 := hf2 4
 have Y5 := hy 5
 have Z5 := hf2 5
 have Y6 := hy 6
 have Z6 := hf2 6
 have Y7 := hy 7
 have Z7 := hf2 7
 have Y8 := hy 8
 have Z8 := hf2 8
 have Y9 := hy 9
 have Z9 := hf2 9
 simp only [zcb, zb9, zca] at Y0 Y1 Y2 Y3 Y4 Y5 Y6 Y7 Y8 Y9
 have hres := zI (b := w.heap.size + 1) [(0, .int .i64 x.atom.kind), (1, .string x.atom.a.name), (2, .slice d2 x.atom.a.kids.length e2), (3, .string x.atom.b.name), (4, .slice d4 x.atom.b.kids.length e4), (5, .slice d5 x.atom.nums.length e5), (6, .slice d6 x.atom.times.length e6), (7, .int .i64 x.atom.bound), (8, .bool x.atom.strict), (9, .bool (!x.no))] hy (by simp)
 have R0 := hres 0
 have R1 := hres 1
 have R2 := hres 2
 have R3 := hres 3
 have R4 := hres 4
 have R5 := hres 5
 have R6 := hres 6
 have R7 := hres 7
 have R8 := hres 8
 have R9 := hres 9
 simp only [zi, zaq, zb7, zb8, zcb, zb9, zca] at R0 R1 R2 R3 R4 R5 R6 R7 R8 R9
 clear hres hy hf2
 have hL2 := Loc.sets (b := w.heap.size + 1) (lo := w.heap.size) (hi := w.heap.size + 1 + 1) (by omega) (by omega) [(0, .int .i64 x.atom.kind), (1, .string x.atom.a.name), (2, .slice d2 x.atom.a.kids.length e2), (3, .string x.atom.b.name), (4, .slice d4 x.atom.b.kids.length e4), (5, .slice d5 x.atom.nums.length e5), (6, .slice d6 x.atom.times.length e6), (7, .int .i64 x.atom.bound), (8, .bool x.atom.strict), (9, .bool (!x.no))] (Loc.refl _ _ v1)
 have hB2 := hBc.trans (hL2.toBelow (B := w.heap.size) (by omega) (Nat.le_refl _))
 have hr2 := hrx.same _ (hL2.same (w0 := w) hfx)
 have hf2x := hfx.same (hL2.same (w0 := w) hfx)
 simp only [zi] at hB2 hr2 hf2x
 clear hL2
 go_simp
 refine hK.out _ _ (fun h => absurd h (by decide)) ?_
 clear hK
 try simp only [Act.put, zb6, zb7, zb8]
 refine Till.done (by kernel_rfl) ?_ _
 go_wp2_with fail
 refine bodyPost_ret (v := .agg #[.int .i64 x.atom.kind, .string x.atom.a.name, .slice d2 x.atom.a.kids.length e2, .string x.atom.b.name, .slice d4 x.atom.b.kids.length e4, .slice d5 x.atom.nums.length e5, .slice d6 x.atom.times.length e6, .int .i64 x.atom.bound, .bool x.atom.strict, .bool (!x.no)]) (by simp [results, Tryd.results8, go_sem, R0, R1, R2, R3, R4, R5, R6, R7, R8, R9]) rfl ?_
 exact ⟨[.int .i64 x.atom.kind, .string x.atom.a.name, .slice d2 x.atom.a.kids.length e2, .string x.atom.b.name, .slice d4 x.atom.b.kids.length e4, .slice d5 x.atom.nums.length e5, .slice d6 x.atom.times.length e6, .int .i64 x.atom.bound, .bool x.atom.strict, .bool (!x.no)], _, rfl, by rw [HT.out]; exact hr2, hf2x.mono (by omega), hB2⟩
end Go.Proofs.YtoehhbkhdddeeaaDoor
end
