/- Parts of the proof: AtomO. -/
import Derived.Test.YtoehhbkhdddeeaaGreatDoorPf7
import Derived.Test.YtoehhbkhdddeeaaGreatDoorPf11
import Derived.Test.YtoehhbkhdddeeaaGreatDoorPf27
section
namespace Go.Proofs.YtoehhbkhdddeeaaGreatDoor
open Go Go.RowKit
set_option linter.unusedVariables false
set_option linter.unusedSimpArgs false
set_option maxRecDepth 100000
set_option maxHeartbeats 16000000
theorem zcL (x : Atm) (vs : List Value) (f : List Nat) (w : World) (hbig : x.small) (hbt : x.times.length ≤ 1048576) (hv : RdVs w x.cd vs f) :
  Calls Tryz.prog 39 #[.agg vs.toArray] w (ToOutV x.cd w) := by
 obtain ⟨a2, c2, f2, a4, c4, f4, a5, c5, f5, a6, c6, f6, rfl, _, m0, m1, m2, m3, m4, m5, m6, m7⟩ := Atm.open hv
 unfold Atm.small at hbig
 have ha : x.a.size ≤ 1000000000 := by omega
 have hb' : x.b.size ≤ 1000000000 := by omega
 have hn : Tm.sizes x.nums ≤ 1000000000 := by omega
 have hbb : Below (w.heap.size + 1 + 1) ((w.alloc (.cells #[.int .i64 x.kind, .string x.a.name, .slice a2 x.a.kids.length c2, .string x.b.name, .slice a4 x.b.kids.length c4, .slice a5 x.nums.length c5, .slice a6 x.times.length c6, .int .i64 x.bound, .bool x.strict] 28)).alloc (.cells #[.int .i64 0, .string ⟨#[]⟩, .slice none 0 0, .string ⟨#[]⟩, .slice none 0 0, .slice none 0 0, .slice none 0 0, .int .i64 0, .bool false] 28)) ((w.alloc (.cells #[.int .i64 x.kind, .string x.a.name, .slice a2 x.a.kids.length c2, .string x.b.name, .slice a4 x.b.kids.length c4, .slice a5 x.nums.length c5, .slice a6 x.times.length c6, .int .i64 x.bound, .bool x.strict] 28)).alloc (.cells #[.int .i64 0, .string ⟨#[]⟩, .slice none 0 0, .string ⟨#[]⟩, .slice none 0 0, .slice none 0 0, .slice none 0 0, .int .i64 0, .bool false] 28)) := Below.refl _ _
 obtain ⟨hx, hy, hz, hB⟩ := box2 hbb
 have hf1 := fun j => (zH hbb j).1
 have hf2 := fun j => (zH hbb j).2
 clear hbb
 obtain ⟨W, hW⟩ : ∃ W, W = ((w.alloc (.cells #[.int .i64 x.kind, .string x.a.name, .slice a2 x.a.kids.length c2, .string x.b.name, .slice a4 x.b.kids.length c4, .slice a5 x.nums.length c5, .slice a6 x.times.length c6, .int .i64 x.bound, .bool x.strict] 28)).alloc (.cells #[.int .i64 0, .string ⟨#[]⟩, .slice none 0 0, .string ⟨#[]⟩, .slice none 0 0, .slice none 0 0, .slice none 0 0, .int .i64 0, .bool false] 28)) := ⟨_, rfl⟩
 go_enter Tryz.func39, Tryz.ntmps39
 go_wp2_with fail
 rw [← hW] at hx hy hz hB hf1 hf2 ⊢
 clear hW
 have C1 := hx 1
 have C2 := hx 2
 have C3 := hx 3
 have C4 := hx 4
 have C5 := hx 5
 have C6 := hx 6
 simp only [zdP, zdN, zdO] at C1 C2 C3 C4 C5 C6
 refine Till.start (F := fun W => W.cell? ⟨w.heap.size, 1, none⟩ = some (.string x.a.name) ∧ W.cell? ⟨w.heap.size, 2, none⟩ = some (.slice a2 x.a.kids.length c2) ∧ W.cell? ⟨w.heap.size, 3, none⟩ = some (.string x.b.name) ∧ W.cell? ⟨w.heap.size, 4, none⟩ = some (.slice a4 x.b.kids.length c4) ∧ W.cell? ⟨w.heap.size, 5, none⟩ = some (.slice a5 x.nums.length c5) ∧ W.cell? ⟨w.heap.size, 6, none⟩ = some (.slice a6 x.times.length c6)) (s0 := 13) (by kernel_rfl) ?_
 have hF : (fun W : World => W.cell? ⟨w.heap.size, 1, none⟩ = some (.string x.a.name) ∧ W.cell? ⟨w.heap.size, 2, none⟩ = some (.slice a2 x.a.kids.length c2) ∧ W.cell? ⟨w.heap.size, 3, none⟩ = some (.string x.b.name) ∧ W.cell? ⟨w.heap.size, 4, none⟩ = some (.slice a4 x.b.kids.length c4) ∧ W.cell? ⟨w.heap.size, 5, none⟩ = some (.slice a5 x.nums.length c5) ∧ W.cell? ⟨w.heap.size, 6, none⟩ = some (.slice a6 x.times.length c6)) W.drew := ⟨C1, C2, C3, C4, C5, C6⟩
 refine Till.take (i := 0) (v := .pointer (some ⟨w.heap.size, 1, none⟩)) rfl (by kernel_rfl) (by kernel_rfl) (by kernel_rfl) (fun _ _ _ h => h) (by kernel_rfl) (Or.inl ⟨by rfl, fun U hU => ?_⟩) hF ?_
 ·obtain ⟨u1, u2, u3, u4, u5, u6⟩ := hU
  go_simp
 try simp only [Act.put, zdK, zdL, zdM]
 refine Till.take (i := 1) (v := .agg #[.string x.a.name, .slice a2 x.a.kids.length c2]) rfl (by kernel_rfl) (by kernel_rfl) (by kernel_rfl) (fun _ _ _ h => h) (by kernel_rfl) (Or.inl ⟨by rfl, fun U hU => ?_⟩) hF ?_
 ·obtain ⟨u1, u2, u3, u4, u5, u6⟩ := hU
  go_simp
 try simp only [Act.put, zdK, zdL, zdM]
 refine Till.take (i := 3) (v := .pointer (some ⟨w.heap.size, 3, none⟩)) rfl (by kernel_rfl) (by kernel_rfl) (by kernel_rfl) (fun _ _ _ h => h) (by kernel_rfl) (Or.inl ⟨by rfl, fun U hU => ?_⟩) hF ?_
 ·obtain ⟨u1, u2, u3, u4, u5, u6⟩ := hU
  go_simp
 try simp only [Act.put, zdK, zdL, zdM]
 refine Till.take (i := 4) (v := .agg #[.string x.b.name, .slice a4 x.b.kids.length c4]) rfl (by kernel_rfl) (by kernel_rfl) (by kernel_rfl) (fun _ _ _ h => h) (by kernel_rfl) (Or.inl ⟨by rfl, fun U hU => ?_⟩) hF ?_
 ·obtain ⟨u1, u2, u3, u4, u5, u6⟩ := hU
  go_simp
 try simp only [Act.put, zdK, zdL, zdM]
 refine Till.take (i := 6) (v := .pointer (some ⟨w.heap.size, 5, none⟩)) rfl (by kernel_rfl) (by kernel_rfl) (by kernel_rfl) (fun _ _ _ h => h) (by kernel_rfl) (Or.inl ⟨by rfl, fun U hU => ?_⟩) hF ?_
 ·obtain ⟨u1, u2, u3, u4, u5, u6⟩ := hU
  go_simp
 try simp only [Act.put, zdK, zdL, zdM]
 refine Till.take (i := 7) (v := .slice a5 x.nums.length c5) rfl (by kernel_rfl) (by kernel_rfl) (by kernel_rfl) (fun _ _ _ h => h) (by kernel_rfl) (Or.inl ⟨by rfl, fun U hU => ?_⟩) hF ?_
 ·obtain ⟨u1, u2, u3, u4, u5, u6⟩ := hU
  go_simp
 try simp only [Act.put, zdK, zdL, zdM]
 refine Till.take (i := 9) (v := .pointer (some ⟨w.heap.size, 6, none⟩)) rfl (by kernel_rfl) (by kernel_rfl) (by kernel_rfl) (fun _ _ _ h => h) (by kernel_rfl) (Or.inl ⟨by rfl, fun U hU => ?_⟩) hF ?_
 ·obtain ⟨u1, u2, u3, u4, u5, u6⟩ := hU
  go_simp
 try simp only [Act.put, zdK, zdL, zdM]
 refine Till.take (i := 10) (v := .slice a6 x.times.length c6) rfl (by kernel_rfl) (by kernel_rfl) (by kernel_rfl) (fun _ _ _ h => h) (by kernel_rfl) (Or.inl ⟨by rfl, fun U hU => ?_⟩) hF ?_
 ·obtain ⟨u1, u2, u3, u4, u5, u6⟩ := hU
  go_simp
 try simp only [Act.put, zdK, zdL, zdM]
 refine Till.one (i := 2) (by kernel_rfl) rfl (fun K hK => ?_)
 go_simp
 go_wp2_with (go_at_call 57; refine (zaM _ x.a _ _ (Nat.le_refl _) ha (by exact (TmR.mk m1 ⟨f2, m2⟩).below (hB.drew))).mono ?_; rintro e wA ⟨kA, fA, rfl, hrA, hfA, hbA⟩)
 obtain ⟨zA, cA, rfl, hc1A, hc2A⟩ := ze hrA
 have hsA : Below W.heap.size W wA := zu hbA
 have hBA := hB.trans (hsA.mono hB.size)
 have C1A := zb C1 hsA
 have C2A := zb C2 hsA
 have C3A := zb C3 hsA
 have C4A := zb C4 hsA
 have C5A := zb C5 hsA
 have C6A := zb C6 hsA
 have hFA : (fun W : World => W.cell? ⟨w.heap.size, 1, none⟩ = some (.string x.a.name) ∧ W.cell? ⟨w.heap.size, 2, none⟩ = some (.slice a2 x.a.kids.length c2) ∧ W.cell? ⟨w.heap.size, 3, none⟩ = some (.string x.b.name) ∧ W.cell? ⟨w.heap.size, 4, none⟩ = some (.slice a4 x.b.kids.length c4) ∧ W.cell? ⟨w.heap.size, 5, none⟩ = some (.slice a5 x.nums.length c5) ∧ W.cell? ⟨w.heap.size, 6, none⟩ = some (.slice a6 x.times.length c6)) wA := ⟨C1A, C2A, C3A, C4A, C5A, C6A⟩
 refine hK.out _ _ (fun _ => hFA) ?_
 clear hK
 refine Till.free (i := 12) (v := .pointer (some ⟨w.heap.size, 1, none⟩)) rfl (by kernel_rfl) (by kernel_rfl) (by kernel_rfl) (fun _ _ _ h => h) (by kernel_rfl) (Or.inl ⟨by rfl, fun U _ => ?_⟩) (fun _ => hFA) ?_
 ·go_simp
 try simp only [Act.put, zdK, zdL, zdM]
 refine Till.one (i := 5) (by kernel_rfl) rfl (fun K hK => ?_)
 go_simp
 go_wp2_with (go_at_call 57; refine (zaM _ x.b _ _ (Nat.le_refl _) hb' (by exact (TmR.mk m3 ⟨f4, m4⟩).below hBA)).mono ?_; rintro e wB ⟨kB, fB, rfl, hrB, hfB, hbB⟩)
 obtain ⟨zB, cB, rfl, hc1B, hc2B⟩ := ze hrB
 have hBB := hBA.trans (hbB.mono hBA.size)
 have C1B := zb C1A hbB
 have C2B := zb C2A hbB
 have C3B := zb C3A hbB
 have C4B := zb C4A hbB
 have C5B := zb C5A hbB
 have C6B := zb C6A hbB
 have hFB : (fun W : World => W.cell? ⟨w.heap.size, 1, none⟩ = some (.string x.a.name) ∧ W.cell? ⟨w.heap.size, 2, none⟩ = some (.slice a2 x.a.kids.length c2) ∧ W.cell? ⟨w.heap.size, 3, none⟩ = some (.string x.b.name) ∧ W.cell? ⟨w.heap.size, 4, none⟩ = some (.slice a4 x.b.kids.length c4) ∧ W.cell? ⟨w.heap.size, 5, none⟩ = some (.slice a5 x.nums.length c5) ∧ W.cell? ⟨w.heap.size, 6, none⟩ = some (.slice a6 x.times.length c6)) wB := ⟨C1B, C2B, C3B, C4B, C5B, C6B⟩
 refine hK.out _ _ (fun _ => hFB) ?_
 clear hK
 refine Till.one (i := 8) (by kernel_rfl) rfl (fun K hK => ?_)
 go_simp
 go_wp2_with (go_at_call 58; refine (zdv x.nums _ _ hn ⟨f5, m5.below hBB⟩).mono ?_; rintro e wN ⟨kN, fN, rfl, hrN, hfN, hbN⟩)
 obtain ⟨zN, cN, rfl, hc1N, hc2N⟩ := ze hrN
 have hBN := hBB.trans (hbN.mono hBB.size)
 have C1N := zb C1B hbN
 have C2N := zb C2B hbN
 have C3N := zb C3B hbN
 have C4N := zb C4B hbN
 have C5N := zb C5B hbN
 have C6N := zb C6B hbN
 have hFN : (fun W : World => W.cell? ⟨w.heap.size, 1, none⟩ = some (.string x.a.name) ∧ W.cell? ⟨w.heap.size, 2, none⟩ = some (.slice a2 x.a.kids.length c2) ∧ W.cell? ⟨w.heap.size, 3, none⟩ = some (.string x.b.name) ∧ W.cell? ⟨w.heap.size, 4, none⟩ = some (.slice a4 x.b.kids.length c4) ∧ W.cell? ⟨w.heap.size, 5, none⟩ = some (.slice a5 x.nums.length c5) ∧ W.cell? ⟨w.heap.size, 6, none⟩ = some (.slice a6 x.times.length c6)) wN := ⟨C1N, C2N, C3N, C4N, C5N, C6N⟩
 refine hK.out _ _ (fun _ => hFN) ?_
 clear hK
 refine Till.one (i := 11) (by kernel_rfl) rfl (fun K hK => ?_)
 go_simp
 go_wp2_with (go_at_call 59; refine (zcH x.times _ _ _ hbt (by exact m6.below hBN)).mono ?_; rintro e wT ⟨kT, fT, rfl, hrT, hfT, hbT⟩)
 obtain ⟨zT, cT, rfl, hc1T, hc2T⟩ := ze hrT
 have hBT := hBN.trans (hbT.mono hBN.size)
 have C1T := zb C1N hbT
 have C2T := zb C2N hbT
 have C3T := zb C3N hbT
 have C4T := zb C4N hbT
 have C5T := zb C5N hbT
 have C6T := zb C6N hbT
 have hFT : (fun W : World => W.cell? ⟨w.heap.size, 1, none⟩ = some (.string x.a.name) ∧ W.cell? ⟨w.heap.size, 2, none⟩ = some (.slice a2 x.a.kids.length c2) ∧ W.cell? ⟨w.heap.size, 3, none⟩ = some (.string x.b.name) ∧ W.cell? ⟨w.heap.size, 4, none⟩ = some (.slice a4 x.b.kids.length c4) ∧ W.cell? ⟨w.heap.size, 5, none⟩ = some (.slice a5 x.nums.length c5) ∧ W.cell? ⟨w.heap.size, 6, none⟩ = some (.slice a6 x.times.length c6)) wT := ⟨C1T, C2T, C3T, C4T, C5T, C6T⟩
 refine hK.out _ _ (fun _ => hFT) ?_
 clear hK
 have hs := hsA.trans (hbB.mono hsA.size) |>.trans (hbN.mono (hsA.trans (hbB.mono hsA.size)).size)
 have hsT := hs.trans (hbT.mono hs.size)
 have xT := zf hx (show w.heap.size < W.heap.size by omega) hsT
 have yT := zf hy (show w.heap.size + 1 < W.heap.size by omega) hsT
 have fT1 := zbK hf1 (show w.heap.size < W.heap.size by omega) hsT
 have fT2 := zbK hf2 (show w.heap.size + 1 < W.heap.size by omega) hsT
 have G1 := fT1 1
 have G2 := fT1 2
 have G3 := fT1 3
 have G4 := fT1 4
 have G5 := fT1 5
 have G6 := fT1 6
 clear hsA hs
 refine Till.one (i := 13) (by kernel_rfl) rfl (fun K hK => ?_)
 go_simp
 refine hK.out _ _ (fun h => absurd h (by decide)) ?_
 clear hK
 try simp only [Act.put, zdK, zdL, zdM]
 refine Till.one (i := 14) (by kernel_rfl) rfl (fun K hK => ?_)
 go_simp
 refine hK.out _ _ (fun h => absurd h (by decide)) ?_
 clear hK
 try simp only [Act.put, zdK, zdL, zdM]
 refine Till.one (i := 15) (by kernel_rfl) rfl (fun K hK => ?_)
 go_simp
 refine hK.out _ _ (fun h => absurd h (by decide)) ?_
 clear hK
 try simp only [Act.put, zdK, zdL, zdM]
 refine Till.one (i := 16) (by kernel_rfl) rfl (fun K hK => ?_)
 go_simp
 refine hK.out _ _ (fun h => absurd h (by decide)) ?_
 clear hK
 try simp only [Act.put, zdK, zdL, zdM]
 refine Till.one (i := 17) (by kernel_rfl) rfl (fun K hK => ?_)
 go_simp
 refine hK.out _ _ (fun h => absurd h (by decide)) ?_
 clear hK
 try simp only [Act.put, zdK, zdL, zdM]
 refine Till.one (i := 18) (by kernel_rfl) rfl (fun K hK => ?_)
 go_simp
 refine hK.out _ _ (fun h => absurd h (by decide)) ?_
 clear hK
 try simp only [Act.put, zdK, zdL, zdM]
 refine Till.one (i := 19) (by kernel_rfl) rfl (fun K hK => ?_)
 go_simp
 refine hK.out _ _ (fun h => absurd h (by decide)) ?_
 clear hK
 try simp only [Act.put, zdK, zdL, zdM]
 refine Till.done (by kernel_rfl) ?_ _
 -- the readings behind the calls
 have hzA := hsT.size
 have hrA' := ((hrA.below hbB).below hbN).below hbT
 have hrB' := (hrB.below hbN).below hbT
 have hrN' := hrN.below hbT
 have hfA0 : Fresh (w.heap.size + 1 + 1) wA fA := hfA.mono (by simpa using hz)
 have lA := hrA.lt _
 have lB := hrB.lt _
 have lN := hrN.lt _
 have sAB := hbB.size
 have sBN := hbN.size
 have sWA := (zu hbA).size
 have hf1' : Fresh (w.heap.size + 1 + 1) wB (fA ++ fB) := Fresh.app (hfA0.below hbB) lA (by omega) hfB
 have hf2' : Fresh (w.heap.size + 1 + 1) wN ((fA ++ fB) ++ fN) := Fresh.app (hf1'.below hbN) (fun q hq => by
  rcases zdS.1 hq with h | h
  ·have := lA q h; omega
  ·exact lB q h) (by omega) hfN
 have hf3' : Fresh (w.heap.size + 1 + 1) wT (((fA ++ fB) ++ fN) ++ fT) := Fresh.app (hf2'.below hbT) (fun q hq => by
  rcases zdS.1 hq with h | h
  ·rcases zdS.1 h with h | h
   ·have := lA q h; omega
   ·have := lB q h; omega
  ·exact lN q h) (by omega) hfT
 have hrd := Atm.close (x := x) m0 m1 hrA' m3 hrB' hrN' hrT m7
 have e : fA ++ (fB ++ (fN ++ fT)) = ((fA ++ fB) ++ fN) ++ fT := by simp
 rw [e] at hrd
 have hBT' := hBT
 -- the world behind the stores, by a name
 have xx := zaq (b := w.heap.size) [(1, .string x.a.name), (2, .slice zA x.a.kids.length cA), (3, .string x.b.name), (4, .slice zB x.b.kids.length cB), (5, .slice zN x.nums.length cN), (6, .slice zT x.times.length cT)] xT (by simp)
 have yx := zaA (b := w.heap.size + 1) (b' := w.heap.size) (by omega) [(1, .string x.a.name), (2, .slice zA x.a.kids.length cA), (3, .string x.b.name), (4, .slice zB x.b.kids.length cB), (5, .slice zN x.nums.length cN), (6, .slice zT x.times.length cT)] yT
 have fx := zbr (b := w.heap.size + 1) (b' := w.heap.size) [(1, .string x.a.name), (2, .slice zA x.a.kids.length cA), (3, .string x.b.name), (4, .slice zB x.b.kids.length cB), (5, .slice zN x.nums.length cN), (6, .slice zT x.times.length cT)] fT2
 have hL := Loc.sets (b := w.heap.size) (lo := w.heap.size) (hi := w.heap.size + 1 + 1) (by omega) (by omega) [(1, .string x.a.name), (2, .slice zA x.a.kids.length cA), (3, .string x.b.name), (4, .slice zB x.b.kids.length cB), (5, .slice zN x.nums.length cN), (6, .slice zT x.times.length cT)] (Loc.refl _ _ wT)
 have hBx := hBT'.trans (hL.toBelow (B := w.heap.size) (by omega) (Nat.le_refl _))
 have hzx := hL.size
 obtain ⟨wx, hwx⟩ : ∃ wx, wx = zi w.heap.size [(1, .string x.a.name), (2, .slice zA x.a.kids.length cA), (3, .string x.b.name), (4, .slice zB x.b.kids.length cB), (5, .slice zN x.nums.length cN), (6, .slice zT x.times.length cT)] wT := ⟨_, rfl⟩
 change Exit.then _ _ _ _ (zi w.heap.size [(1, .string x.a.name), (2, .slice zA x.a.kids.length cA), (3, .string x.b.name), (4, .slice zB x.b.kids.length cB), (5, .slice zN x.nums.length cN), (6, .slice zT x.times.length cT)] wT)
 rw [← hwx] at xx yx fx hL hBx hzx ⊢
 clear hwx xT yT fT1 fT2
 have hrx := hrd.same _ (hL.same (w0 := w) hf3')
 have hfx := hf3'.same (hL.same (w0 := w) hf3')
 clear hL hrd hf3' hf2' hf1' hfA0
 have X0 := xx 0
 have X1 := xx 1
 have X2 := xx 2
 have X3 := xx 3
 have X4 := xx 4
 have X5 := xx 5
 have X6 := xx 6
 have X7 := xx 7
 have X8 := xx 8
 have Y0 := yx 0
 have Y1 := yx 1
 have Y2 := yx 2
 have Y3 := yx 3
 have Y4 := yx 4
 have Y5 := yx 5
 have Y6 := yx 6
 have Y7 := yx 7
 have Y8 := yx 8
 have Z0 := fx 0
 have Z1 := fx 1
 have Z2 := fx 2
 have Z3 := fx 3
 have Z4 := fx 4
 have Z5 := fx 5
 have Z6 := fx 6
 have Z7 := fx 7
 have Z8 := fx 8
 simp only [zbL, zdL, zdM, zdP, zdN, zdO] at X0 Y0 X1 Y1 X2 Y2 X3 Y3 X4 Y4 X5 Y5 X6 Y6 X7 Y7 X8 Y8
 have hres := zaq (b := w.heap.size + 1) [(0, .int .i64 x.kind), (1, .string x.a.name), (2, .slice zA x.a.kids.length cA), (3, .string x.b.name), (4, .slice zB x.b.kids.length cB), (5, .slice zN x.nums.length cN), (6, .slice zT x.times.length cT), (7, .int .i64 x.bound), (8, .bool x.strict)] yx (by simp)
 have R0 := hres 0
 have R1 := hres 1
 have R2 := hres 2
 have R3 := hres 3
 have R4 := hres 4
 have R5 := hres 5
 have R6 := hres 6
 have R7 := hres 7
 have R8 := hres 8
 simp only [zi, zbL, zdL, zdM, zdP, zdN, zdO] at R0 R1 R2 R3 R4 R5 R6 R7 R8
 clear hres xx yx fx
 clear C1 C2 C3 C4 C5 C6 C1A C2A C3A C4A C5A C6A C1B C2B C3B C4B C5B C6B C1N C2N C3N C4N C5N C6N C1T C2T C3T C4T C5T C6T G1 G2 G3 G4 G5 G6 hF hFA hFB hFN hFT
 have hL2 := Loc.sets (b := w.heap.size + 1) (lo := w.heap.size) (hi := w.heap.size + 1 + 1) (by omega) (by omega) [(0, .int .i64 x.kind), (1, .string x.a.name), (2, .slice zA x.a.kids.length cA), (3, .string x.b.name), (4, .slice zB x.b.kids.length cB), (5, .slice zN x.nums.length cN), (6, .slice zT x.times.length cT), (7, .int .i64 x.bound), (8, .bool x.strict)] (Loc.refl _ _ wx)
 have hB2 := hBx.trans (hL2.toBelow (B := w.heap.size) (by omega) (Nat.le_refl _))
 have hr2 := hrx.same _ (hL2.same (w0 := w) hfx)
 have hf2x := hfx.same (hL2.same (w0 := w) hfx)
 simp only [zi] at hB2 hr2 hf2x
 clear hL2
 go_wp2_with fail
 refine bodyPost_ret (v := .agg #[.int .i64 x.kind, .string x.a.name, .slice zA x.a.kids.length cA, .string x.b.name, .slice zB x.b.kids.length cB, .slice zN x.nums.length cN, .slice zT x.times.length cT, .int .i64 x.bound, .bool x.strict]) (by simp [results, Tryz.results39, go_sem, R0, R1, R2, R3, R4, R5, R6, R7, R8]) rfl ?_
 exact ⟨[.int .i64 x.kind, .string x.a.name, .slice zA x.a.kids.length cA, .string x.b.name, .slice zB x.b.kids.length cB, .slice zN x.nums.length cN, .slice zT x.times.length cT, .int .i64 x.bound, .bool x.strict], _, rfl, hr2, hf2x.mono (by omega), hB2⟩
end Go.Proofs.YtoehhbkhdddeeaaGreatDoor
end
