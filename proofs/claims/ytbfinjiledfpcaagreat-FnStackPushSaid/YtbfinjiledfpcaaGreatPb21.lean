/- Parts of the proof: AtomO CopyL. -/
import Derived.Test.YtbfinjiledfpcaaGreatPb6
import Derived.Test.YtbfinjiledfpcaaGreatPb12
import Derived.Test.YtbfinjiledfpcaaGreatPb20
section
namespace Go.Proofs.YtbfinjiledfpcaaGreat
open Go Go.RowKit
set_option linter.unusedVariables false
set_option linter.unusedSimpArgs false
set_option maxRecDepth 100000
set_option maxHeartbeats 16000000
theorem zcE (x : Atm) (vs : List Value) (f : List Nat) (w : World) (hbig : x.small) (hbt : x.times.length ≤ 1048576) (hv : RdVs w x.cd vs f) :
  Calls Tryz.prog 81 #[.agg vs.toArray] w (zbq x.cd w) := by
 obtain ⟨a2, c2, f2, a4, c4, f4, a5, c5, f5, a6, c6, f6, rfl, _, m0, m1, m2, m3, m4, m5, m6, m7⟩ := Atm.open hv
 unfold Atm.small at hbig
 have ha : x.a.size ≤ 1000000000 := by omega
 have hb' : x.b.size ≤ 1000000000 := by omega
 have hn : Tm.sizes x.nums ≤ 1000000000 := by omega
 have hbb : Below (w.heap.size + 1 + 1) ((w.alloc (.cells #[.int .i64 x.kind, .string x.a.name, .slice a2 x.a.kids.length c2, .string x.b.name, .slice a4 x.b.kids.length c4, .slice a5 x.nums.length c5, .slice a6 x.times.length c6, .int .i64 x.bound, .bool x.strict] 31)).alloc (.cells #[.int .i64 0, .string ⟨#[]⟩, .slice none 0 0, .string ⟨#[]⟩, .slice none 0 0, .slice none 0 0, .slice none 0 0, .int .i64 0, .bool false] 31)) ((w.alloc (.cells #[.int .i64 x.kind, .string x.a.name, .slice a2 x.a.kids.length c2, .string x.b.name, .slice a4 x.b.kids.length c4, .slice a5 x.nums.length c5, .slice a6 x.times.length c6, .int .i64 x.bound, .bool x.strict] 31)).alloc (.cells #[.int .i64 0, .string ⟨#[]⟩, .slice none 0 0, .string ⟨#[]⟩, .slice none 0 0, .slice none 0 0, .slice none 0 0, .int .i64 0, .bool false] 31)) := Below.refl _ _
 obtain ⟨hx, hy, hz, hB⟩ := box2 hbb
 have hf1 := fun j => (zO hbb j).1
 have hf2 := fun j => (zO hbb j).2
 clear hbb
 obtain ⟨W, hW⟩ : ∃ W, W = ((w.alloc (.cells #[.int .i64 x.kind, .string x.a.name, .slice a2 x.a.kids.length c2, .string x.b.name, .slice a4 x.b.kids.length c4, .slice a5 x.nums.length c5, .slice a6 x.times.length c6, .int .i64 x.bound, .bool x.strict] 31)).alloc (.cells #[.int .i64 0, .string ⟨#[]⟩, .slice none 0 0, .string ⟨#[]⟩, .slice none 0 0, .slice none 0 0, .slice none 0 0, .int .i64 0, .bool false] 31)) := ⟨_, rfl⟩
 go_enter Tryz.func81, Tryz.ntmps81
 go_wp2_with fail
 rw [← hW] at hx hy hz hB hf1 hf2 ⊢
 clear hW
 have C1 := hx 1
 have C2 := hx 2
 have C3 := hx 3
 have C4 := hx 4
 have C5 := hx 5
 have C6 := hx 6
 simp only [zfG, zfE, zfF] at C1 C2 C3 C4 C5 C6
 refine Till.start (F := fun W => W.cell? ⟨w.heap.size, 1, none⟩ = some (.string x.a.name) ∧ W.cell? ⟨w.heap.size, 2, none⟩ = some (.slice a2 x.a.kids.length c2) ∧ W.cell? ⟨w.heap.size, 3, none⟩ = some (.string x.b.name) ∧ W.cell? ⟨w.heap.size, 4, none⟩ = some (.slice a4 x.b.kids.length c4) ∧ W.cell? ⟨w.heap.size, 5, none⟩ = some (.slice a5 x.nums.length c5) ∧ W.cell? ⟨w.heap.size, 6, none⟩ = some (.slice a6 x.times.length c6)) (s0 := 13) (by kernel_rfl) ?_
 have hF : (fun W : World => W.cell? ⟨w.heap.size, 1, none⟩ = some (.string x.a.name) ∧ W.cell? ⟨w.heap.size, 2, none⟩ = some (.slice a2 x.a.kids.length c2) ∧ W.cell? ⟨w.heap.size, 3, none⟩ = some (.string x.b.name) ∧ W.cell? ⟨w.heap.size, 4, none⟩ = some (.slice a4 x.b.kids.length c4) ∧ W.cell? ⟨w.heap.size, 5, none⟩ = some (.slice a5 x.nums.length c5) ∧ W.cell? ⟨w.heap.size, 6, none⟩ = some (.slice a6 x.times.length c6)) W.drew := ⟨C1, C2, C3, C4, C5, C6⟩
 refine Till.take (i := 0) (v := .pointer (some ⟨w.heap.size, 1, none⟩)) rfl (by kernel_rfl) (by kernel_rfl) (by kernel_rfl) (fun _ _ _ h => h) (by kernel_rfl) (Or.inl ⟨by rfl, fun U hU => ?_⟩) hF ?_
 ·obtain ⟨u1, u2, u3, u4, u5, u6⟩ := hU
  go_simp
 try simp only [Act.put, zfB, zfC, zfD]
 refine Till.take (i := 1) (v := .agg #[.string x.a.name, .slice a2 x.a.kids.length c2]) rfl (by kernel_rfl) (by kernel_rfl) (by kernel_rfl) (fun _ _ _ h => h) (by kernel_rfl) (Or.inl ⟨by rfl, fun U hU => ?_⟩) hF ?_
 ·obtain ⟨u1, u2, u3, u4, u5, u6⟩ := hU
  go_simp
 try simp only [Act.put, zfB, zfC, zfD]
 refine Till.take (i := 3) (v := .pointer (some ⟨w.heap.size, 3, none⟩)) rfl (by kernel_rfl) (by kernel_rfl) (by kernel_rfl) (fun _ _ _ h => h) (by kernel_rfl) (Or.inl ⟨by rfl, fun U hU => ?_⟩) hF ?_
 ·obtain ⟨u1, u2, u3, u4, u5, u6⟩ := hU
  go_simp
 try simp only [Act.put, zfB, zfC, zfD]
 refine Till.take (i := 4) (v := .agg #[.string x.b.name, .slice a4 x.b.kids.length c4]) rfl (by kernel_rfl) (by kernel_rfl) (by kernel_rfl) (fun _ _ _ h => h) (by kernel_rfl) (Or.inl ⟨by rfl, fun U hU => ?_⟩) hF ?_
 ·obtain ⟨u1, u2, u3, u4, u5, u6⟩ := hU
  go_simp
 try simp only [Act.put, zfB, zfC, zfD]
 refine Till.take (i := 6) (v := .pointer (some ⟨w.heap.size, 5, none⟩)) rfl (by kernel_rfl) (by kernel_rfl) (by kernel_rfl) (fun _ _ _ h => h) (by kernel_rfl) (Or.inl ⟨by rfl, fun U hU => ?_⟩) hF ?_
 ·obtain ⟨u1, u2, u3, u4, u5, u6⟩ := hU
  go_simp
 try simp only [Act.put, zfB, zfC, zfD]
 refine Till.take (i := 7) (v := .slice a5 x.nums.length c5) rfl (by kernel_rfl) (by kernel_rfl) (by kernel_rfl) (fun _ _ _ h => h) (by kernel_rfl) (Or.inl ⟨by rfl, fun U hU => ?_⟩) hF ?_
 ·obtain ⟨u1, u2, u3, u4, u5, u6⟩ := hU
  go_simp
 try simp only [Act.put, zfB, zfC, zfD]
 refine Till.take (i := 9) (v := .pointer (some ⟨w.heap.size, 6, none⟩)) rfl (by kernel_rfl) (by kernel_rfl) (by kernel_rfl) (fun _ _ _ h => h) (by kernel_rfl) (Or.inl ⟨by rfl, fun U hU => ?_⟩) hF ?_
 ·obtain ⟨u1, u2, u3, u4, u5, u6⟩ := hU
  go_simp
 try simp only [Act.put, zfB, zfC, zfD]
 refine Till.take (i := 10) (v := .slice a6 x.times.length c6) rfl (by kernel_rfl) (by kernel_rfl) (by kernel_rfl) (fun _ _ _ h => h) (by kernel_rfl) (Or.inl ⟨by rfl, fun U hU => ?_⟩) hF ?_
 ·obtain ⟨u1, u2, u3, u4, u5, u6⟩ := hU
  go_simp
 try simp only [Act.put, zfB, zfC, zfD]
 refine Till.one (i := 2) (by kernel_rfl) rfl (fun K hK => ?_)
 go_simp
 go_wp2_with (go_at_call 116; refine (za5 _ x.a _ _ (Nat.le_refl _) ha (by exact (TmR.mk m1 ⟨f2, m2⟩).below (hB.drew))).mono ?_; rintro e wA ⟨kA, fA, rfl, hrA, hfA, hbA⟩)
 obtain ⟨zA, cA, rfl, hc1A, hc2A⟩ := zh hrA
 have hsA : Below W.heap.size W wA := ze hbA
 have hBA := hB.trans (hsA.mono hB.size)
 have C1A := zb C1 hsA
 have C2A := zb C2 hsA
 have C3A := zb C3 hsA
 have C4A := zb C4 hsA
 have C5A := zb C5 hsA
 have C6A := zb C6 hsA
 have hFA : (fun W : World => W.cell? ⟨w.heap.size, 1, none⟩ = some (.string x.a.name) ∧ W.cell? ⟨w.heap.size, 2, none⟩ = some (.slice a2 x.a.kids.length c2) ∧ W.cell? ⟨w.heap.size, 3, none⟩ = some (.string x.b.name) ∧ W.cell? ⟨w.heap.size, 4, none⟩ = some (.slice a4 x.b.kids.length c4) ∧ W.cell? ⟨w.heap.size, 5, none⟩ = some (.slice a5 x.nums.length c5) ∧ W.cell? ⟨w.heap.size, 6, none⟩ = some (.slice a6 x.times.length c6)) wA := ⟨C1A, C2A, C3A, C4A, C5A, C6A⟩
 refine hK.out _ _ (fun _ => hFA) ?_
 clear hK
 refine Till.free (i := 12) (v := .pointer (some ⟨w.heap.size, 1, none⟩)) rfl (by kernel_rfl) (by kernel_rfl) (by kernel_rfl) (fun _ _ _ h => h) (by kernel_rfl) (Or.inl ⟨by rfl, fun U _ => ?_⟩) (fun _ => hFA) ?_
 ·go_simp
 try simp only [Act.put, zfB, zfC, zfD]
 refine Till.one (i := 5) (by kernel_rfl) rfl (fun K hK => ?_)
 go_simp
 go_wp2_with (go_at_call 116; refine (za5 _ x.b _ _ (Nat.le_refl _) hb' (by exact (TmR.mk m3 ⟨f4, m4⟩).below hBA)).mono ?_; rintro e wB ⟨kB, fB, rfl, hrB, hfB, hbB⟩)
 obtain ⟨zB, cB, rfl, hc1B, hc2B⟩ := zh hrB
 have hBB := hBA.trans (hbB.mono hBA.size)
 have C1B := zb C1A hbB
 have C2B := zb C2A hbB
 have C3B := zb C3A hbB
 have C4B := zb C4A hbB
 have C5B := zb C5A hbB
 have C6B := zb C6A hbB
 have hFB : (fun W : World => W.cell? ⟨w.heap.size, 1, none⟩ = some (.string x.a.name) ∧ W.cell? ⟨w.heap.size, 2, none⟩ = some (.slice a2 x.a.kids.length c2) ∧ W.cell? ⟨w.heap.size, 3, none⟩ = some (.string x.b.name) ∧ W.cell? ⟨w.heap.size, 4, none⟩ = some (.slice a4 x.b.kids.length c4) ∧ W.cell? ⟨w.heap.size, 5, none⟩ = some (.slice a5 x.nums.length c5) ∧ W.cell? ⟨w.heap.size, 6, none⟩ = some (.slice a6 x.times.length c6)) wB := ⟨C1B, C2B, C3B, C4B, C5B, C6B⟩
 refine hK.out _ _ (fun _ => hFB) ?_
 clear hK
 refine Till.one (i := 8) (by kernel_rfl) rfl (fun K hK => ?_)
 go_simp
 go_wp2_with (go_at_call 117; refine (zfb x.nums _ _ hn ⟨f5, m5.below hBB⟩).mono ?_; rintro e wN ⟨kN, fN, rfl, hrN, hfN, hbN⟩)
 obtain ⟨zN, cN, rfl, hc1N, hc2N⟩ := zh hrN
 have hBN := hBB.trans (hbN.mono hBB.size)
 have C1N := zb C1B hbN
 have C2N := zb C2B hbN
 have C3N := zb C3B hbN
 have C4N := zb C4B hbN
 have C5N := zb C5B hbN
 have C6N := zb C6B hbN
 have hFN : (fun W : World => W.cell? ⟨w.heap.size, 1, none⟩ = some (.string x.a.name) ∧ W.cell? ⟨w.heap.size, 2, none⟩ = some (.slice a2 x.a.kids.length c2) ∧ W.cell? ⟨w.heap.size, 3, none⟩ = some (.string x.b.name) ∧ W.cell? ⟨w.heap.size, 4, none⟩ = some (.slice a4 x.b.kids.length c4) ∧ W.cell? ⟨w.heap.size, 5, none⟩ = some (.slice a5 x.nums.length c5) ∧ W.cell? ⟨w.heap.size, 6, none⟩ = some (.slice a6 x.times.length c6)) wN := ⟨C1N, C2N, C3N, C4N, C5N, C6N⟩
 refine hK.out _ _ (fun _ => hFN) ?_
 clear hK
 refine Till.one (i := 11) (by kernel_rfl) rfl (fun K hK => ?_)
 go_simp
 go_wp2_with (go_at_call 118; refine (zcD x.times _ _ _ hbt (by exact m6.below hBN)).mono ?_; rintro e wT ⟨kT, fT, rfl, hrT, hfT, hbT⟩)
 obtain ⟨zT, cT, rfl, hc1T, hc2T⟩ := zh hrT
 have hBT := hBN.trans (hbT.mono hBN.size)
 have C1T := zb C1N hbT
 have C2T := zb C2N hbT
 have C3T := zb C3N hbT
 have C4T := zb C4N hbT
 have C5T := zb C5N hbT
 have C6T := zb C6N hbT
 have hFT : (fun W : World => W.cell? ⟨w.heap.size, 1, none⟩ = some (.string x.a.name) ∧ W.cell? ⟨w.heap.size, 2, none⟩ = some (.slice a2 x.a.kids.length c2) ∧ W.cell? ⟨w.heap.size, 3, none⟩ = some (.string x.b.name) ∧ W.cell? ⟨w.heap.size, 4, none⟩ = some (.slice a4 x.b.kids.length c4) ∧ W.cell? ⟨w.heap.size, 5, none⟩ = some (.slice a5 x.nums.length c5) ∧ W.cell? ⟨w.heap.size, 6, none⟩ = some (.slice a6 x.times.length c6)) wT := ⟨C1T, C2T, C3T, C4T, C5T, C6T⟩
 refine hK.out _ _ (fun _ => hFT) ?_
 clear hK
 have hs := hsA.trans (hbB.mono hsA.size) |>.trans (hbN.mono (hsA.trans (hbB.mono hsA.size)).size)
 have hsT := hs.trans (hbT.mono hs.size)
 have xT := zg hx (show w.heap.size < W.heap.size by omega) hsT
 have yT := zg hy (show w.heap.size + 1 < W.heap.size by omega) hsT
 have fT1 := zj hf1 (show w.heap.size < W.heap.size by omega) hsT
 have fT2 := zj hf2 (show w.heap.size + 1 < W.heap.size by omega) hsT
 have G1 := fT1 1
 have G2 := fT1 2
 have G3 := fT1 3
 have G4 := fT1 4
 have G5 := fT1 5
 have G6 := fT1 6
 clear hsA hs
 refine Till.one (i := 13) (by kernel_rfl) rfl (fun K hK => ?_)
 go_simp
 refine hK.out _ _ (fun h => absurd h (by decide)) ?_
 clear hK
 try simp only [Act.put, zfB, zfC, zfD]
 refine Till.one (i := 14) (by kernel_rfl) rfl (fun K hK => ?_)
 go_simp
 refine hK.out _ _ (fun h => absurd h (by decide)) ?_
 clear hK
 try simp only [Act.put, zfB, zfC, zfD]
 refine Till.one (i := 15) (by kernel_rfl) rfl (fun K hK => ?_)
 go_simp
 refine hK.out _ _ (fun h => absurd h (by decide)) ?_
 clear hK
 try simp only [Act.put, zfB, zfC, zfD]
 refine Till.one (i := 16) (by kernel_rfl) rfl (fun K hK => ?_)
 go_simp
 refine hK.out _ _ (fun h => absurd h (by decide)) ?_
 clear hK
 try simp only [Act.put, zfB, zfC, zfD]
 refine Till.one (i := 17) (by kernel_rfl) rfl (fun K hK => ?_)
 go_simp
 refine hK.out _ _ (fun h => absurd h (by decide)) ?_
 clear hK
 try simp only [Act.put, zfB, zfC, zfD]
 refine Till.one (i := 18) (by kernel_rfl) rfl (fun K hK => ?_)
 go_simp
 refine hK.out _ _ (fun h => absurd h (by decide)) ?_
 clear hK
 try simp only [Act.put, zfB, zfC, zfD]
 refine Till.one (i := 19) (by kernel_rfl) rfl (fun K hK => ?_)
 go_simp
 refine hK.out _ _ (fun h => absurd h (by decide)) ?_
 clear hK
 try simp only [Act.put, zfB, zfC, zfD]
 refine Till.done (by kernel_rfl) ?_ _
 -- the readings behind the calls
 have hzA := hsT.size
 have hrA' := ((hrA.below hbB).below hbN).below hbT
 have hrB' := (hrB.below hbN).below hbT
 have hrN' := hrN.below hbT
 have hfA0 : Fresh (w.heap.size + 1 + 1) wA fA := hfA.mono (by simpa using hz)
 have lA := hrA.lt _
 have lB := hrB.lt _
 have lN := hrN.lt _
 have sAB := hbB.size
 have sBN := hbN.size
 have sWA := (ze hbA).size
 have hf1' : Fresh (w.heap.size + 1 + 1) wB (fA ++ fB) := Fresh.app (hfA0.below hbB) lA (by omega) hfB
 have hf2' : Fresh (w.heap.size + 1 + 1) wN ((fA ++ fB) ++ fN) := Fresh.app (hf1'.below hbN) (fun q hq => by
  rcases zfJ.1 hq with h | h
  ·have := lA q h; omega
  ·exact lB q h) (by omega) hfN
 have hf3' : Fresh (w.heap.size + 1 + 1) wT (((fA ++ fB) ++ fN) ++ fT) := Fresh.app (hf2'.below hbT) (fun q hq => by
  rcases zfJ.1 hq with h | h
  ·rcases zfJ.1 h with h | h
   ·have := lA q h; omega
   ·have := lB q h; omega
  ·exact lN q h) (by omega) hfT
 have hrd := Atm.close (x := x) m0 m1 hrA' m3 hrB' hrN' hrT m7
 have e : fA ++ (fB ++ (fN ++ fT)) = ((fA ++ fB) ++ fN) ++ fT := by simp
 rw [e] at hrd
 have hBT' := hBT
 -- the world behind the stores, by a name
 have xx := zw (b := w.heap.size) [(1, .string x.a.name), (2, .slice zA x.a.kids.length cA), (3, .string x.b.name), (4, .slice zB x.b.kids.length cB), (5, .slice zN x.nums.length cN), (6, .slice zT x.times.length cT)] xT (by simp)
 have yx := zaA (b := w.heap.size + 1) (b' := w.heap.size) (by omega) [(1, .string x.a.name), (2, .slice zA x.a.kids.length cA), (3, .string x.b.name), (4, .slice zB x.b.kids.length cB), (5, .slice zN x.nums.length cN), (6, .slice zT x.times.length cT)] yT
 have fx := zan (b := w.heap.size + 1) (b' := w.heap.size) [(1, .string x.a.name), (2, .slice zA x.a.kids.length cA), (3, .string x.b.name), (4, .slice zB x.b.kids.length cB), (5, .slice zN x.nums.length cN), (6, .slice zT x.times.length cT)] fT2
 have hL := Loc.sets (b := w.heap.size) (lo := w.heap.size) (hi := w.heap.size + 1 + 1) (by omega) (by omega) [(1, .string x.a.name), (2, .slice zA x.a.kids.length cA), (3, .string x.b.name), (4, .slice zB x.b.kids.length cB), (5, .slice zN x.nums.length cN), (6, .slice zT x.times.length cT)] (Loc.refl _ _ wT)
 have hBx := hBT'.trans (hL.toBelow (B := w.heap.size) (by omega) (Nat.le_refl _))
 have hzx := hL.size
 obtain ⟨wx, hwx⟩ : ∃ wx, wx = zu w.heap.size [(1, .string x.a.name), (2, .slice zA x.a.kids.length cA), (3, .string x.b.name), (4, .slice zB x.b.kids.length cB), (5, .slice zN x.nums.length cN), (6, .slice zT x.times.length cT)] wT := ⟨_, rfl⟩
 change Exit.then _ _ _ _ (zu w.heap.size [(1, .string x.a.name), (2, .slice zA x.a.kids.length cA), (3, .string x.b.name), (4, .slice zB x.b.kids.length cB), (5, .slice zN x.nums.length cN), (6, .slice zT x.times.length cT)] wT)
 rw [← hwx] at xx yx fx hL hBx hzx ⊢
 clear hwx xT yT fT1 fT2
 have hrx := hrd.same _ (hL.same (w0 := w) hf3')
 have hfx := hf3'.same (hL.same (w0 := w) hf3')
 clear hL hrd hf3' hf2' hf1' hfA0
 have X0 := xx 0
 have X1 := xx 1
 have X2 := xx 2
 have X3 := xx 3
 have X4 := xx 4
 have X5 := xx 5
 have X6 := xx 6
 have X7 := xx 7
 have X8 := xx 8
 have Y0 := yx 0
 have Y1 := yx 1
 have Y2 := yx 2
 have Y3 := yx 3
 have Y4 := yx 4
 have Y5 := yx 5
 have Y6 := yx 6
 have Y7 := yx 7
 have Y8 := yx 8
 have Z0 := fx 0
 have Z1 := fx 1
 have Z2 := fx 2
 have Z3 := fx 3
 have Z4 := fx 4
 have Z5 := fx 5
 have Z6 := fx 6
 have Z7 := fx 7
 have Z8 := fx 8
 simp only [zab, zfC, zfD, zfG, zfE, zfF] at X0 Y0 X1 Y1 X2 Y2 X3 Y3 X4 Y4 X5 Y5 X6 Y6 X7 Y7 X8 Y8
 have hres := zw (b := w.heap.size + 1) [(0, .int .i64 x.kind), (1, .string x.a.name), (2, .slice zA x.a.kids.length cA), (3, .string x.b.name), (4, .slice zB x.b.kids.length cB), (5, .slice zN x.nums.length cN), (6, .slice zT x.times.length cT), (7, .int .i64 x.bound), (8, .bool x.strict)] yx (by simp)
 have R0 := hres 0
 have R1 := hres 1
 have R2 := hres 2
 have R3 := hres 3
 have R4 := hres 4
 have R5 := hres 5
 have R6 := hres 6
 have R7 := hres 7
 have R8 := hres 8
 simp only [zu, zab, zfC, zfD, zfG, zfE, zfF] at R0 R1 R2 R3 R4 R5 R6 R7 R8
 clear hres xx yx fx
 clear C1 C2 C3 C4 C5 C6 C1A C2A C3A C4A C5A C6A C1B C2B C3B C4B C5B C6B C1N C2N C3N C4N C5N C6N C1T C2T C3T C4T C5T C6T G1 G2 G3 G4 G5 G6 hF hFA hFB hFN hFT
 have hL2 := Loc.sets (b := w.heap.size + 1) (lo := w.heap.size) (hi := w.heap.size + 1 + 1) (by omega) (by omega) [(0, .int .i64 x.kind), (1, .string x.a.name), (2, .slice zA x.a.kids.length cA), (3, .string x.b.name), (4, .slice zB x.b.kids.length cB), (5, .slice zN x.nums.length cN), (6, .slice zT x.times.length cT), (7, .int .i64 x.bound), (8, .bool x.strict)] (Loc.refl _ _ wx)
 have hB2 := hBx.trans (hL2.toBelow (B := w.heap.size) (by omega) (Nat.le_refl _))
 have hr2 := hrx.same _ (hL2.same (w0 := w) hfx)
 have hf2x := hfx.same (hL2.same (w0 := w) hfx)
 simp only [zu] at hB2 hr2 hf2x
 clear hL2
 go_wp2_with fail
 refine bodyPost_ret (v := .agg #[.int .i64 x.kind, .string x.a.name, .slice zA x.a.kids.length cA, .string x.b.name, .slice zB x.b.kids.length cB, .slice zN x.nums.length cN, .slice zT x.times.length cT, .int .i64 x.bound, .bool x.strict]) (by simp [results, Tryz.results81, go_sem, R0, R1, R2, R3, R4, R5, R6, R7, R8]) rfl ?_
 exact ⟨[.int .i64 x.kind, .string x.a.name, .slice zA x.a.kids.length cA, .string x.b.name, .slice zB x.b.kids.length cB, .slice zN x.nums.length cN, .slice zT x.times.length cT, .int .i64 x.bound, .bool x.strict], _, rfl, hr2, hf2x.mono (by omega), hB2⟩
theorem step_app0 {P : Program} {t e : TypeId} {z : Value} {k bytes : Nat} (hT : SlTy P t e z k bytes) {w : World} {ops : Array Oper} {o : Oper} {a : Act} {K : Act → World → Prop} {Q : Exit → Act → World → Prop} {E : Prop} (hgd : o.guard = none) (s x : Operand)
  (ho : o.op = .call { callee := .builtin .append, args := #[s, x], argTypes := #[t, t] }) (base ao : Option Addr) (n c c' : Nat) (hle : n ≤ c) (hs : a.eval s = .slice base n c) (hx : a.eval x = .slice ao 0 c')
  (h : K (a.put o.dst (.slice base n c)) w) : if Region.wanted o (yielded ops a.tmps) = true then Oper.wp P o a w K Q else E := by
 have hw : Region.wanted o (yielded ops a.tmps) = true := by simp [Region.wanted, hgd]
 rw [if_pos hw]
 obtain ⟨i, hi, hz, hsz, hb⟩ := info_parts hT.info
 have hsrc : Src P i.size t (.slice ao 0 c') 0 [] w := by
  cases ao with
  | none => exact Src.ofNil _ hT.und c'
  | some ad => exact Src.ofSlice _ hT.und ad 0 c' [] (by simp) (fun j u h => by simp at h) (by simp)
 have hr := run_append_nothing (P := P) w t t o.type e i hT.und hi base n c hle _ hsrc
 unfold Oper.wp execOp
 simp only [ho, resolve, invoke, builtin, Sem.run_bind, Sem.run_pure, Result.andThen_ok, List.map_toArray, List.map_cons, List.map_nil, hs, hx, hr]
 exact h
theorem zM {P : Program} {t e : TypeId} {z : Value} {k bytes : Nat} (hT : SlTy P t e z k bytes) {w : World} {ops : Array Oper} {o : Oper} {a : Act} {K : Act → World → Prop} {Q : Exit → Act → World → Prop} {E : Prop} (hgd : o.guard = none) (s x : Operand)
  (ho : o.op = .call { callee := .builtin .append, args := #[s, x], argTypes := #[t, t] })
  (base : Nat) (v : Value) (es : List (List CD)) (fp : List Nat) (hs : a.eval s = v) (hown : Own w base e k v es fp)
  (news : List (List CD)) (nv : Value) (nf : List Nat) (hx : a.eval x = nv) (hrd : Rd w (.sl news) nv nf) (hnk : ∀ x ∈ news, x.length = k) (hna : ∀ b ∈ nf, v.ownBlock ≠ some b)
  (hbytes : (es.length + news.length) * bytes ≤ 140737488355328) (hlen : es.length + news.length ≤ 140737488355328) (hbase : base ≤ w.heap.size)
  (h : ∀ v' w' nfp, (∀ b ∈ nfp, b ∈ nf) → Own w' base e k v' (es ++ news) (fp ++ nfp) → w.grownBy w' v.ownBlock → (∀ b, v'.ownBlock = some b → v.ownBlock = some b ∨ w.heap.size ≤ b) → K (a.put o.dst v') w') : if Region.wanted o (yielded ops a.tmps) = true then Oper.wp P o a w K Q else E := by
 obtain ⟨xa, xc, rfl, _, _⟩ := hrd.sl_form
 rcases Nat.eq_zero_or_pos news.length with hz | hne
 ·obtain rfl := List.eq_nil_of_length_eq_zero hz
  obtain ⟨va, vc, rfl, hv1, _⟩ := hown.form
  refine step_app0 hT hgd s x ho va xa es.length vc xc hv1 hs hx ?_
  exact h _ w [] (by simp) (by simpa using hown) (zaW _ _) (fun b hb => .inl hb)
 ·obtain ⟨b, off, f, rfl, hb, rfl, hr⟩ := hrd.addr hne
  obtain ⟨vs, hc, hvs⟩ := hr.flat
  exact zZ hT hgd s x ho base v es fp hs hown ⟨b, off, none⟩ news.length xc news vs f hx rfl hvs hnk (fun j u hj => by simpa [Addr.add_lit] using hc j u hj) (fun y hy => hna y (by simp [hy])) hbytes hlen hbase
   (fun v' w' h1 h2 h3 h4 => h v' w' f (fun y hy => by simp [hy]) h1 h2 h3)
section
variable {P : Program} {ops : Array Oper} {Q : Exit → Act → World → Prop} {F : World → Prop} {s0 : Nat}
/-- What is to be shown of number i, if it comes up. -/
def Step (P : Program) (ops : Array Oper) (Q : Exit → Act → World → Prop) (F : World → Prop) (s0 n : Nat) (up : Array Bool) (a : Act) (w : World) (i : Nat) (o : Oper) : Prop :=
 ∀ K' : Act → World → Prop, Hid (∀ b u, ((up.setIfInBounds i true).getD s0 true = false → F u) → Till P ops Q F s0 n (up.setIfInBounds i true) b u → K' b u) → if Region.wanted o (yielded ops a.tmps) = true then Oper.wp P o a w K' Q else K' (a.put o.dst undef) w
theorem Step.op {i : Nat} {o : Oper} {n : Nat} {up : Array Bool} {a : Act} {w : World} (ho : ops[i]? = some o) (h : Step P ops Q F s0 n up a w i o) :
  wpOp P ops Q i (fun b u => ((up.setIfInBounds i true).getD s0 true = false → F u) ∧ Till P ops Q F s0 n (up.setIfInBounds i true) b u) a w :=
 wpOp_step ho fun K' hK => h K' (Lib.hid fun b u h1 h2 => hK b u ⟨h1, h2⟩)
theorem Till.two {i j : Nat} {oi oj : Oper} {n : Nat} {up : Array Bool} {a : Act} {w : World} (hr : Region.ready .any ops up = [i, j]) (hi : ops[i]? = some oi) (hj : ops[j]? = some oj)
  (si : Step P ops Q F s0 n up a w i oi) (sj : Step P ops Q F s0 n up a w j oj) : Till P ops Q F s0 (n + 1) up a w := by
 refine ⟨fun h0 => (by rw [hr] at h0; cases h0), fun m hm => ?_⟩
 rw [hr] at hm
 simp only [zfN, List.not_mem_nil, or_false] at hm
 rcases hm with rfl | rfl
 ·exact si.op hi
 ·exact sj.op hj
theorem Till.three {i j k : Nat} {oi oj ok : Oper} {n : Nat} {up : Array Bool} {a : Act} {w : World} (hr : Region.ready .any ops up = [i, j, k]) (hi : ops[i]? = some oi) (hj : ops[j]? = some oj) (hk : ops[k]? = some ok)
  (si : Step P ops Q F s0 n up a w i oi) (sj : Step P ops Q F s0 n up a w j oj) (sk : Step P ops Q F s0 n up a w k ok) : Till P ops Q F s0 (n + 1) up a w := by
 refine ⟨fun h0 => (by rw [hr] at h0; cases h0), fun m hm => ?_⟩
 rw [hr] at hm
 simp only [zfN, List.not_mem_nil, or_false] at hm
 rcases hm with rfl | rfl | rfl
 ·exact si.op hi
 ·exact sj.op hj
 ·exact sk.op hk
end
/-- At the region's end a fact T stands; what follows is shown from T alone. -/
theorem zcG {P : Program} {id : Nat} {ops : Array Oper} {d : Bool} {Q : Exit → Act → World → Prop} {a : Act} {w : World} (T : Act → World → Prop) (hT : ∀ b u, T b u → Q .normal b u)
  (h : (Code.region id ops d).wp P (fun e b u => match e with | .normal => T b u | e => Q e b u) a w) : (Code.region id ops d).wp P Q a w :=
 Code.wp_mono (fun e b u k => by cases e <;> first | exact hT b u k | exact k) h
theorem asz2 (w : World) (o : Obj) : (w.alloc o).heap.size = w.heap.size + 1 := by simp
theorem Fresh.join {lo : Nat} {w : World} {f g : List Nat} (h : Fresh lo w f) (h' : Fresh lo w g) (hd : ∀ b ∈ f, b ∉ g) : Fresh lo w (f ++ g) := by
 refine ⟨List.nodup_append.2 ⟨h.1, h'.1, fun a ha b hb e => hd a ha (e ▸ hb)⟩, fun b hb => ?_⟩
 rcases zfJ.1 hb with h1 | h1
 ·exact h.2 b h1
 ·exact h'.2 b h1
theorem Fresh.perm4 {lo : Nat} {w : World} {a b c d : List Nat} (h : Fresh lo w (((a ++ b) ++ c) ++ d)) : Fresh lo w (a ++ (b ++ (d ++ c))) := by
 have hp : (((a ++ b) ++ c) ++ d).Perm (a ++ (b ++ (d ++ c))) := by
  rw [List.append_assoc, List.append_assoc]
  exact List.Perm.append_left _ (List.Perm.append_left _ List.perm_append_comm)
 exact ⟨hp.nodup_iff.1 h.1, fun x hx => h.2 x (hp.mem_iff.2 hx)⟩
end Go.Proofs.YtbfinjiledfpcaaGreat
end
