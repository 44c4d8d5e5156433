/- Parts of the proof: StkX SameD SameE StkY MarkT ExTm MarkTm ExMark ExHeld Cnt LawStackForms LawStackTellL. -/
import Derived.Test.YtbfinjiledfpcaaGreatPT21
import Derived.Test.YtbfinjiledfpcaaGreatPT17
import Derived.Test.YtbfinjiledfpcaaGreatPT13
import Derived.Test.YtbfinjiledfpcaaGreatPT18
import Derived.Laws.BytesArg
import Derived.Test.YtbfinjiledfpcaaGreatPT3
import Derived.Test.YtbfinjiledfpcaaGreatPT2
import Derived.Lib.QuietBelow
import Derived.Test.YtbfinjiledfpcaaGreatPT4
import Derived.Test.YtbfinjiledfpcaaGreatPT15
import Derived.Deep.RegionHeld3
import Derived.BigQuiet
section
namespace Go.Proofs.YtbfinjiledfpcaaGreat
open Go Go.RowKit
set_option linter.unusedVariables false
set_option linter.unusedSimpArgs false
set_option maxRecDepth 100000
set_option maxHeartbeats 16000000
def DrawnKF (e : Ending) (w' : World) : Prop := ∃ (K : Stk) (f : Fm) (sa : Option Addr) (sc : Nat) (la : Option Addr) (lc : Nat) (b3 : Option Addr) (d3 : Nat) (b5 : Option Addr) (d5 : Nat) (b6 : Option Addr) (d6 : Nat) (b7 : Option Addr) (d7 : Nat) (b11 : Option Addr) (d11 : Nat) (kf ff : List Nat), wtV K.cd ≤ 460000 ∧ wtV f.cd ≤ 160000 ∧
 e = .returned (.tuple #[.agg #[.slice sa K.sig.Y.length sc, .slice la K.E.length lc], .agg (yTa f b3 d3 b5 d5 b6 d6 b7 d7 b11 d11)]) ∧ RdVs w' K.cd [.slice sa K.sig.Y.length sc, .slice la K.E.length lc] kf ∧ RdVs w' f.cd (yTl f b3 d3 b5 d5 b6 d6 b7 d7 b11 d11) ff
theorem lite_fit {K : Stk} (h : StkLite 6 K) : zbu 5 2 451000 K := ⟨h.1, zgy h.2 (by decide)⟩
theorem zb7 (v : Value) (w : World) (hv : Byts w v) :
  Calls Tryz.prog 32 #[v] w fun e w' => DrawnKF e w' ∧ Below w.heap.size w w' := by
 have hA := (Box.new w [.slice none 0 0, .slice none 0 0] 53).alloc (.cells yYa 36); have hC := Box.new (w.alloc (.cells #[.slice none 0 0, .slice none 0 0] 53)) yYl 36; rw [zgs] at hC; have hbn : Below w.heap.size w ((w.alloc (.cells #[.slice none 0 0, .slice none 0 0] 53)).alloc (.cells yYa 36)) := ((zgz _ _).alloc (zgo _) _).alloc (by simp) _
 have hs0 : ((w.alloc (.cells #[.slice none 0 0, .slice none 0 0] 53)).alloc (.cells yYa 36)).heap.size = w.heap.size + 2 := by simp
 go_enter Tryz.func32, Tryz.ntmps32; go_upto_region 1 with fail; generalize (w.alloc (.cells #[.slice none 0 0, .slice none 0 0] 53)).alloc (.cells yYa 36) = W0 at *; go_wp2_with fail; refine (zeA v _ (by exact hv.below hbn)).mono ?_; rintro e u1 ⟨rfl, hu1, hb1⟩; rw [hs0] at hu1 ⊢; replace hA := hA.below hb1; replace hC := hC.below hb1; have hBW := hbn.trans (hb1.mono (by omega)); have hzu := hb1.size; rw [hs0] at hzu; obtain ⟨rb, hrb⟩ : ∃ rb, rb = w.heap.size + 2 := ⟨_, rfl⟩; rw [← hrb] at hu1 ⊢
 have hrw1 : rb ≤ w.heap.size + 2 := by omega
 have hrw2 : w.heap.size + 2 ≤ rb := by omega
 clear hrb hb1 hs0 hbn; have hl1 := hu1.lt; go_wp2_with fail; refine (zeX rb 0 _ (by omega) hu1).mono ?_; rintro e w1 ⟨⟨K, l, sa, sc, la, lc, ta, tc, kf, lf, hlite, ⟨hl1', hl6, hlx⟩, rfl, hrk, hrl, hkf0, hlf0⟩, hRd, ho1⟩; have HL := zgn hlx; have HF := zgn (lite_fit hlite); clear hlx hlite; have hz1 := ho1.size
 have hkf : ∀ b ∈ kf, rb < b := fun b hb => by have := hkf0 b hb; omega
 have hlf : ∀ b ∈ lf, rb < b := fun b hb => by have := hlf0 b hb; omega
 replace hA := hA.only ho1 (by omega); replace hC := hC.only ho1 (by omega); replace hBW := hBW.trans (ho1.toBelow (B := w.heap.size) (by omega) (fun b hb => by simp at hb; omega)); clear ho1 hu1 hkf0 hlf0; obtain ⟨KB, hKB⟩ : ∃ S, S = w1.heap.size := ⟨_, rfl⟩; have hX := Box.new w1 [.slice sa K.sig.Y.length sc, .slice la K.E.length lc] 53; rw [← hKB] at hX
 have hrK : rb < KB := by have := hRd.lt; omega
 go_upto_region 3 with fail; rw [← hKB]; have hba := zb w1 (.cells #[.slice sa K.sig.Y.length sc, .slice la K.E.length lc] 53); replace hA := hA.below hba; replace hC := hC.below hba; replace hrk := hrk.below hba; replace hrl := hrl.below hba; replace hRd := hRd.below hba; replace hBW := hBW.trans (hba.mono (by have := hBW.size; omega)); have hzK : KB + 1 ≤ (w1.alloc (.cells #[.slice sa K.sig.Y.length sc, .slice la K.E.length lc] 53)).heap.size := hX.1; clear hba hKB; generalize w1.alloc (.cells #[.slice sa K.sig.Y.length sc, .slice la K.E.length lc] 53) = w2 at *; go_wp2_with fail; refine (zaW 2 [1, 2] [.int .i64 1, .int .i64 2] rfl rfl rb (0 + 2000) _ _ (by omega) (by simp) (by simp) (by exact Lst.new hRd.lt _ _) (hRd.below (zb _ _))).mono ?_; rintro e w3 ⟨⟨dv, hdv, rfl⟩, hRn, ho⟩
 have hd1 : 1 ≤ dv ∧ dv ≤ 2 := by simp at hdv; omega
 have hbn := zb w2 (.cells #[.int .i64 1, .int .i64 2] 3); have hz3 := ho.size; rw [zgs] at hz3; replace hA := hA.below hbn; replace hC := hC.below hbn; replace hX := hX.below hbn; replace hrk := hrk.below hbn; replace hrl := hrl.below hbn; replace hRd := hRd.below hbn; replace hBW := hBW.trans (hbn.mono (by have := hBW.size; omega)); replace hA := hA.only ho (by omega); replace hC := hC.only ho (by omega); replace hX := hX.only ho (by omega); replace hrk := hrk.only ho (fun h => by have := hkf _ h; omega); replace hrl := hrl.only ho (fun h => by have := hlf _ h; omega); replace hBW := hBW.trans (ho.toBelow (B := w.heap.size) (by have := hBW.size; omega) (fun b hb => by simp at hb; omega)); clear hRd hbn ho hdv; have hRd := hRn; clear hRn; go_wp2_with fail; refine (zdR 2 l _ lf dv rb (0 + 2000 + 1) _ (by omega) (by omega) (by omega) (by simp only [gcap]; omega) hl1' hl6 HL (by exact hrl) (fun h => by have := hlf _ h; omega) (by exact hRd)).mono ?_; rintro e w4 ⟨⟨f, vf, ff, hwf0, rfl, hrf, hff0⟩, hRn, ho⟩; obtain ⟨b3, d3, _, b5, d5, _, b6, d6, _, b7, d7, _, b11, d11, _, rfl, -, n0, n1, n2, n3, n4, n5, n6, n7, n8, n9⟩ := Fm.open hrf; clear n0 n1 n2 n3 n4 n5 n6 n7 n8 n9
 have hwf : wtV f.cd ≤ 160000 := by have h4 : fcap 2 = 15006 := rfl; rw [h4] at hwf0; omega
 have hff : ∀ b ∈ ff, rb < b := fun b hb => by
  rcases hff0 b hb with h | h
  ·exact hlf b h
  ·omega
 have hz4 := ho.size; replace hA := hA.only ho (by omega); replace hC := hC.only ho (by omega); replace hX := hX.only ho (by omega); replace hrk := hrk.only ho (fun h => by have := hkf _ h; omega); replace hrl := hrl.only ho (fun h => by have := hlf _ h; omega); replace hBW := hBW.trans (ho.toBelow (B := w.heap.size) (by have := hBW.size; omega) (fun b hb => by simp at hb; omega)); clear hRd ho hwf0 hff0; have hRd := hRn; clear hRn; obtain ⟨F, hFe⟩ : ∃ S, S = w4.heap.size := ⟨_, rfl⟩; have hF := Box.new w4 (yTl f b3 d3 b5 d5 b6 d6 b7 d7 b11 d11) 36; rw [← hFe] at hF
 have hKF : KB < F := by have := hX.1; omega
 have hkF : ∀ b ∈ kf, b < F := fun b hb => by have := hrk.lt _ b hb; omega
 have hlF : ∀ b ∈ lf, b < F := fun b hb => by have := hrl.lt _ b hb; omega
 have hffF : ∀ b ∈ ff, b < F := fun b hb => by rw [hFe]; exact hrf.lt _ b hb
 go_upto_region 4 with fail; rw [← hFe]; have hba := zb w4 (.cells (yTa f b3 d3 b5 d5 b6 d6 b7 d7 b11 d11) 36); replace hA := hA.below hba; replace hC := hC.below hba; replace hX := hX.below hba; replace hrk := hrk.below hba; replace hrl := hrl.below hba; replace hRd := hRd.below hba; replace hBW := hBW.trans (hba.mono (by have := hBW.size; omega)); replace hrf := hrf.below hba; have hzF : F + 1 ≤ (w4.alloc (.cells (yTa f b3 d3 b5 d5 b6 d6 b7 d7 b11 d11) 36)).heap.size := hF.1; clear hba hFe; generalize w4.alloc (.cells (yTa f b3 d3 b5 d5 b6 d6 b7 d7 b11 d11) 36) = w5 at *; go_wp2_with fail; refine (zS rb (0 + 2000 + 1 + gcap 2) 12 _ (by simp only [gcap]; omega) (by omega) (by omega) hRd).mono ?_; rintro e u ⟨⟨d, hd, rfl⟩, hRn, ho⟩; have hzu5 := ho.size; replace hA := hA.only ho (by omega); replace hC := hC.only ho (by omega); replace hX := hX.only ho (by omega); replace hF := hF.only ho (by omega); replace hrk := hrk.only ho (fun h => by have := hkf _ h; omega); replace hrl := hrl.only ho (fun h => by have := hlf _ h; omega); replace hrf := hrf.only ho (fun h => by have := hff _ h; omega); replace hBW := hBW.trans (ho.toBelow (B := w.heap.size) (by have := hBW.size; omega) (fun b hb => by simp at hb; omega)); clear hRd ho; have hRd := hRn.mono (q := 2020) (by simp only [gcap]; omega); clear hRn
 by_cases d0 : d = 0
 ·subst d0
  go_wp2_with fail; refine (zfW rb 2020 _ (by omega) (by exact hRd)).mono ?_; rintro e u7 ⟨⟨s2, g, a2, c2, g3, j3, g5, j5, g6, j6, g7, j7, g11, j11, sf2, gf, _, hwg, rfl, _, hrg, _, hgf⟩, hRn, ho⟩; have hzu7 := ho.size; have hFl := hF.1; replace hA := hA.only ho (by omega); replace hC := hC.only ho (by omega); replace hX := hX.only ho (by omega); replace hrk := hrk.only ho (fun h => by have := hkf _ h; omega); replace hrl := hrl.only ho (fun h => by have := hlf _ h; omega); replace hBW := hBW.trans (ho.toBelow (B := w.heap.size) (by have := hBW.size; omega) (fun b hb => by simp at hb; omega)); replace hF := hF.only ho (by omega); clear hRd ho hrf hff hwf; have hRd := hRn; clear hRn
  have hff : ∀ b ∈ gf, rb < b ∧ F < b := fun b hb => by have := hgf b hb; omega
  obtain ⟨y0, y1, y2, y3, y4, y5, y6, y7, y8, y9, y10, y11⟩ := yR12 hF.2.1 rfl; obtain ⟨z0, z1, z2, z3, z4, z5, z6, z7, z8, z9, z10, z11⟩ := yQ12 hF.2.2; have gF := hF.puts (yTl g g3 j3 g5 j5 g6 j6 g7 j7 g11 j11) rfl; replace hA := hA.sets_other (b := F) (by omega) (zd 0 (yTl g g3 j3 g5 j5 g6 j6 g7 j7 g11 j11)); replace hC := hC.sets_other (b := F) (by omega) (zd 0 (yTl g g3 j3 g5 j5 g6 j6 g7 j7 g11 j11)); replace hX := hX.sets_other (b := F) (by omega) (zd 0 (yTl g g3 j3 g5 j5 g6 j6 g7 j7 g11 j11)); replace hBW := zaa (b := F) (by omega) (zd 0 (yTl g g3 j3 g5 j5 g6 j6 g7 j7 g11 j11)) hBW; replace hRd := Rdr.sets (b := F) (by omega) (zd 0 (yTl g g3 j3 g5 j5 g6 j6 g7 j7 g11 j11)) hRd; have hKK := (Same2.refl F F u7).sets (b := F) (.inl rfl) (zd 0 (yTl g g3 j3 g5 j5 g6 j6 g7 j7 g11 j11)); replace hrk := hrk.same2 hKK (fun b hb => by have := hkF b hb; omega); replace hrl := hrl.same2 hKK (fun b hb => by have := hlF b hb; omega); have hrf := hrg.same2 hKK (fun b hb => by have := hff b hb; omega); simp only [zi, zd] at gF hA hC hX hBW hRd hrk hrl hrf; clear hKK hF hrg; go_upto_region 6 with fail; clear y0 z0 y1 z1 y2 z2 y3 z3 y4 z4 y5 z5 y6 z6 y7 z7 y8 z8 y9 z9 y10 z10 y11 z11; generalize (((((((((((u7.setCell ⟨F, 0, none⟩ (.int .i64 g.kind)).setCell ⟨F, 1, none⟩ (.int .i64 g.L.M.kind)).setCell ⟨F, 2, none⟩ (.string g.L.M.a.name)).setCell ⟨F, 3, none⟩ (.slice g3 g.L.M.a.K.length j3)).setCell ⟨F, 4, none⟩ (.string g.L.M.b.name)).setCell ⟨F, 5, none⟩ (.slice g5 g.L.M.b.K.length j5)).setCell ⟨F, 6, none⟩ (.slice g6 g.L.M.N.length j6)).setCell ⟨F, 7, none⟩ (.slice g7 g.L.M.T.length j7)).setCell ⟨F, 8, none⟩ (.int .i64 g.L.M.O)).setCell ⟨F, 9, none⟩ (.bool g.L.M.C)).setCell ⟨F, 10, none⟩ (.bool g.L.no)).setCell ⟨F, 11, none⟩ (.slice g11 g.K.length j11) = u at *; have hF := gF; clear gF; have hwf := hwg; replace hff : ∀ b ∈ gf, rb < b := fun b hb => (hff b hb).1; have hbd := zj u; replace hA := hA.below hbd; replace hC := hC.below hbd; replace hX := hX.below hbd; replace hF := hF.below hbd; replace hrf := hrf.below hbd; replace hrk := hrk.below hbd; replace hrl := hrl.below hbd; replace hRd := hRd.below hbd; replace hBW := hBW.trans (hbd.mono (by have := hBW.size; omega)); clear hbd; have hKu := hX.1; go_upto_region 6 with fail; refine Till.start (F := (fun U : World => U.cell? ⟨KB, 0, none⟩ = some (.slice sa K.sig.Y.length sc) ∧ U.cell? ⟨KB, 1, none⟩ = some (.slice la K.E.length lc) ∧ (yTd g g3 j3 g5 j5 g6 j6 g7 j7 g11 j11 U F))) (s0 := 5) (by kernel_rfl) ?_; have hF9 : (fun U : World => U.cell? ⟨KB, 0, none⟩ = some (.slice sa K.sig.Y.length sc) ∧ U.cell? ⟨KB, 1, none⟩ = some (.slice la K.E.length lc) ∧ (yTd g g3 j3 g5 j5 g6 j6 g7 j7 g11 j11 U F)) _ := ⟨hX.2.1 0 _ rfl, hX.2.1 1 _ rfl, hF.2.1 0 _ rfl, hF.2.1 1 _ rfl, hF.2.1 2 _ rfl, hF.2.1 3 _ rfl, hF.2.1 4 _ rfl, hF.2.1 5 _ rfl, hF.2.1 6 _ rfl, hF.2.1 7 _ rfl, hF.2.1 8 _ rfl, hF.2.1 9 _ rfl, hF.2.1 10 _ rfl, hF.2.1 11 _ rfl⟩; refine Till.take (i := 0) (v := (.pointer (some ⟨rb, 0, none⟩))) rfl (by kernel_rfl) (by kernel_rfl) (by kernel_rfl) (fun _ _ _ h => h) (by kernel_rfl) (Or.inl ⟨by rfl, fun U hU => ?_⟩) hF9 ?_
  ·obtain ⟨u0F, u1F, u2F, u3F, u4F, u5F, u6F, u7F, u8F, u9F, u10F, u11F, u12F, u13F⟩ := hU
   go_simp
  try simp only [zgB]
  refine Till.take (i := 1) (v := (.agg #[.slice sa K.sig.Y.length sc, .slice la K.E.length lc])) rfl (by kernel_rfl) (by kernel_rfl) (by kernel_rfl) (fun _ _ _ h => h) (by kernel_rfl) (Or.inl ⟨by rfl, fun U hU => ?_⟩) hF9 ?_
  ·obtain ⟨u0F, u1F, u2F, u3F, u4F, u5F, u6F, u7F, u8F, u9F, u10F, u11F, u12F, u13F⟩ := hU
   go_simp
  try simp only [zgB]
  refine Till.take (i := 3) (v := (.agg (yTa g g3 j3 g5 j5 g6 j6 g7 j7 g11 j11))) rfl (by kernel_rfl) (by kernel_rfl) (by kernel_rfl) (fun _ _ _ h => h) (by kernel_rfl) (Or.inl ⟨by rfl, fun U hU => ?_⟩) hF9 ?_
  ·obtain ⟨u0F, u1F, u2F, u3F, u4F, u5F, u6F, u7F, u8F, u9F, u10F, u11F, u12F, u13F⟩ := hU
   go_simp
  try simp only [zgB]
  refine Till.one (i := 2) (by kernel_rfl) rfl (fun J9 hK => ?_); go_simp; go_wp2_with (go_at_call 73; refine (zcU 5 2 451000 K _ kf rb (2020 + 1000) _ (by omega) (by omega) (by omega) HF.out (by omega) (by exact hrk) (fun h => by have := hkf _ h; omega) hRd).mono ?_; rintro e w3 ⟨⟨K9, a9, c9, m9, n9, k9, hfit, rfl, hr9, hk9⟩, hR3, ho3⟩); have HF9 := zgn hfit.2; have hz39 := ho3.size; replace hA := hA.only ho3 (by omega); replace hC := hC.only ho3 (by omega); replace hX := hX.only ho3 (by omega); replace hF := hF.only ho3 (by omega); replace hrk := hrk.only ho3 (fun h => by have := hkf _ h; omega); replace hrl := hrl.only ho3 (fun h => by have := hlf _ h; omega); replace hrf := hrf.only ho3 (fun h => by have := hff _ h; omega); replace hBW := hBW.trans (ho3.toBelow (B := w.heap.size) (by have := hBW.size; omega) (fun b hb => by simp at hb; omega)); clear ho3 hRd hfit; replace hF9 : (fun U : World => U.cell? ⟨KB, 0, none⟩ = some (.slice sa K.sig.Y.length sc) ∧ U.cell? ⟨KB, 1, none⟩ = some (.slice la K.E.length lc) ∧ (yTd g g3 j3 g5 j5 g6 j6 g7 j7 g11 j11 U F)) _ := ⟨hX.2.1 0 _ rfl, hX.2.1 1 _ rfl, hF.2.1 0 _ rfl, hF.2.1 1 _ rfl, hF.2.1 2 _ rfl, hF.2.1 3 _ rfl, hF.2.1 4 _ rfl, hF.2.1 5 _ rfl, hF.2.1 6 _ rfl, hF.2.1 7 _ rfl, hF.2.1 8 _ rfl, hF.2.1 9 _ rfl, hF.2.1 10 _ rfl, hF.2.1 11 _ rfl⟩; refine hK.out _ _ (fun _ => hF9) ?_; clear hK
  try simp only [zgB]
  refine Till.one (i := 4) (by kernel_rfl) rfl (fun J9 hK => ?_); have yr0 := hA.2.1 0 _ rfl; have yr1 := hA.2.1 1 _ rfl; have zr0 := hA.2.2 0; have zr1 := hA.2.2 1; go_simp; have gA := hA.puts [.slice a9 K9.sig.Y.length c9, .slice m9 K9.E.length n9] rfl; have gC := hC.sets_other (b := w.heap.size) (by omega) (zd 0 [.slice a9 K9.sig.Y.length c9, .slice m9 K9.E.length n9]); have gX := hX.sets_other (b := w.heap.size) (by omega) (zd 0 [.slice a9 K9.sig.Y.length c9, .slice m9 K9.E.length n9]); have gF := hF.sets_other (b := w.heap.size) (by omega) (zd 0 [.slice a9 K9.sig.Y.length c9, .slice m9 K9.E.length n9]); have hBE := zaa (b := w.heap.size) (zgo _) (zd 0 [.slice a9 K9.sig.Y.length c9, .slice m9 K9.E.length n9]) hBW; have hK1 := (Same2.refl w.heap.size (w.heap.size + 1) w3).sets (b := w.heap.size) (.inl rfl) (zd 0 [.slice a9 K9.sig.Y.length c9, .slice m9 K9.E.length n9]); simp only [zi, zd] at gA gC gX gF hBE hK1; clear hA hC hX hF hBW yr0 yr1 zr0 zr1; have hX := gX; have hF := gF; refine hK.out _ _ (fun _ => ⟨hX.2.1 0 _ rfl, hX.2.1 1 _ rfl, hF.2.1 0 _ rfl, hF.2.1 1 _ rfl, hF.2.1 2 _ rfl, hF.2.1 3 _ rfl, hF.2.1 4 _ rfl, hF.2.1 5 _ rfl, hF.2.1 6 _ rfl, hF.2.1 7 _ rfl, hF.2.1 8 _ rfl, hF.2.1 9 _ rfl, hF.2.1 10 _ rfl, hF.2.1 11 _ rfl⟩) ?_; clear hK
  try simp only [zgB]
  refine Till.one (i := 5) (by kernel_rfl) rfl (fun J9 hK => ?_); obtain ⟨y0, y1, y2, y3, y4, y5, y6, y7, y8, y9, y10, y11⟩ := yR12 gC.2.1 rfl; obtain ⟨z0, z1, z2, z3, z4, z5, z6, z7, z8, z9, z10, z11⟩ := yQ12 gC.2.2; go_simp; generalize (w3.setCell ⟨w.heap.size, 0, none⟩ (.slice a9 K9.sig.Y.length c9)).setCell ⟨w.heap.size, 1, none⟩ (.slice m9 K9.E.length n9) = w4 at *; have gC2 := gC.puts (yTl g g3 j3 g5 j5 g6 j6 g7 j7 g11 j11) rfl; have gA2 := gA.sets_other (b := w.heap.size + 1) (by omega) (zd 0 (yTl g g3 j3 g5 j5 g6 j6 g7 j7 g11 j11)); have hBE2 := zaa (b := w.heap.size + 1) (by omega) (zd 0 (yTl g g3 j3 g5 j5 g6 j6 g7 j7 g11 j11)) hBE; have hK2 := hK1.sets (b := w.heap.size + 1) (.inr rfl) (zd 0 (yTl g g3 j3 g5 j5 g6 j6 g7 j7 g11 j11)); simp only [zi, zd] at gC2 gA2 hBE2 hK2; refine hK.out _ _ (fun h => absurd h (by decide)) ?_; clear hK y0 z0 y1 z1 y2 z2 y3 z3 y4 z4 y5 z5 y6 z6 y7 z7 y8 z8 y9 z9 y10 z10 y11 z11
  try simp only [zgB]
  refine Till.done (by kernel_rfl) ?_ _; have r0 := gA2.2.1 0 _ rfl; have r1 := gA2.2.1 1 _ rfl; obtain ⟨e0, e1, e2, e3, e4, e5, e6, e7, e8, e9, e10, e11⟩ := yR12 gC2.2.1 rfl; have hr92 := hr9.same2 hK2 (fun b hb => by have := hk9 b hb; omega); have hrf2 := hrf.same2 hK2 (fun b hb => by have := hff b hb; omega); clear gC2 gA2 gC gA gX gF hX hF hF9 hBE hK1 hK2 hr9 hrf; go_wp2_with fail; refine bodyPost_ret (v := .tuple #[.agg #[.slice a9 K9.sig.Y.length c9, .slice m9 K9.E.length n9], .agg (yTa g g3 j3 g5 j5 g6 j6 g7 j7 g11 j11)]) (by simp [results, Tryz.results32, go_sem, r0, r1, e0, e1, e2, e3, e4, e5, e6, e7, e8, e9, e10, e11]) rfl ?_; exact ⟨⟨K9, g, _, _, _, _, _, _, _, _, _, _, _, _, _, _, _, _, by have := HF9.out; omega, hwf, rfl, hr92, hrf2⟩, hBE2⟩
 ·have d1 : ((d : Int) == 0) = false := by simpa using (by omega : ¬ ((d : Int) = 0))
  have hbd := zj u; replace hA := hA.below hbd; replace hC := hC.below hbd; replace hX := hX.below hbd; replace hF := hF.below hbd; replace hrf := hrf.below hbd; replace hrk := hrk.below hbd; replace hrl := hrl.below hbd; replace hRd := hRd.below hbd; replace hBW := hBW.trans (hbd.mono (by have := hBW.size; omega)); clear hbd; have hKu := hX.1; go_upto_region 6 with fail; refine Till.start (F := (fun U : World => U.cell? ⟨KB, 0, none⟩ = some (.slice sa K.sig.Y.length sc) ∧ U.cell? ⟨KB, 1, none⟩ = some (.slice la K.E.length lc) ∧ (yTd f b3 d3 b5 d5 b6 d6 b7 d7 b11 d11 U F))) (s0 := 5) (by kernel_rfl) ?_; have hF9 : (fun U : World => U.cell? ⟨KB, 0, none⟩ = some (.slice sa K.sig.Y.length sc) ∧ U.cell? ⟨KB, 1, none⟩ = some (.slice la K.E.length lc) ∧ (yTd f b3 d3 b5 d5 b6 d6 b7 d7 b11 d11 U F)) _ := ⟨hX.2.1 0 _ rfl, hX.2.1 1 _ rfl, hF.2.1 0 _ rfl, hF.2.1 1 _ rfl, hF.2.1 2 _ rfl, hF.2.1 3 _ rfl, hF.2.1 4 _ rfl, hF.2.1 5 _ rfl, hF.2.1 6 _ rfl, hF.2.1 7 _ rfl, hF.2.1 8 _ rfl, hF.2.1 9 _ rfl, hF.2.1 10 _ rfl, hF.2.1 11 _ rfl⟩; refine Till.take (i := 0) (v := (.pointer (some ⟨rb, 0, none⟩))) rfl (by kernel_rfl) (by kernel_rfl) (by kernel_rfl) (fun _ _ _ h => h) (by kernel_rfl) (Or.inl ⟨by rfl, fun U hU => ?_⟩) hF9 ?_
  ·obtain ⟨u0F, u1F, u2F, u3F, u4F, u5F, u6F, u7F, u8F, u9F, u10F, u11F, u12F, u13F⟩ := hU
   go_simp
  try simp only [zgB]
  refine Till.take (i := 1) (v := (.agg #[.slice sa K.sig.Y.length sc, .slice la K.E.length lc])) rfl (by kernel_rfl) (by kernel_rfl) (by kernel_rfl) (fun _ _ _ h => h) (by kernel_rfl) (Or.inl ⟨by rfl, fun U hU => ?_⟩) hF9 ?_
  ·obtain ⟨u0F, u1F, u2F, u3F, u4F, u5F, u6F, u7F, u8F, u9F, u10F, u11F, u12F, u13F⟩ := hU
   go_simp
  try simp only [zgB]
  refine Till.take (i := 3) (v := (.agg (yTa f b3 d3 b5 d5 b6 d6 b7 d7 b11 d11))) rfl (by kernel_rfl) (by kernel_rfl) (by kernel_rfl) (fun _ _ _ h => h) (by kernel_rfl) (Or.inl ⟨by rfl, fun U hU => ?_⟩) hF9 ?_
  ·obtain ⟨u0F, u1F, u2F, u3F, u4F, u5F, u6F, u7F, u8F, u9F, u10F, u11F, u12F, u13F⟩ := hU
   go_simp
  try simp only [zgB]
  refine Till.one (i := 2) (by kernel_rfl) rfl (fun J9 hK => ?_); go_simp; go_wp2_with (go_at_call 73; refine (zcU 5 2 451000 K _ kf rb (2020) _ (by omega) (by omega) (by omega) HF.out (by omega) (by exact hrk) (fun h => by have := hkf _ h; omega) hRd).mono ?_; rintro e w3 ⟨⟨K9, a9, c9, m9, n9, k9, hfit, rfl, hr9, hk9⟩, hR3, ho3⟩); have HF9 := zgn hfit.2; have hz39 := ho3.size; replace hA := hA.only ho3 (by omega); replace hC := hC.only ho3 (by omega); replace hX := hX.only ho3 (by omega); replace hF := hF.only ho3 (by omega); replace hrk := hrk.only ho3 (fun h => by have := hkf _ h; omega); replace hrl := hrl.only ho3 (fun h => by have := hlf _ h; omega); replace hrf := hrf.only ho3 (fun h => by have := hff _ h; omega); replace hBW := hBW.trans (ho3.toBelow (B := w.heap.size) (by have := hBW.size; omega) (fun b hb => by simp at hb; omega)); clear ho3 hRd hfit; replace hF9 : (fun U : World => U.cell? ⟨KB, 0, none⟩ = some (.slice sa K.sig.Y.length sc) ∧ U.cell? ⟨KB, 1, none⟩ = some (.slice la K.E.length lc) ∧ (yTd f b3 d3 b5 d5 b6 d6 b7 d7 b11 d11 U F)) _ := ⟨hX.2.1 0 _ rfl, hX.2.1 1 _ rfl, hF.2.1 0 _ rfl, hF.2.1 1 _ rfl, hF.2.1 2 _ rfl, hF.2.1 3 _ rfl, hF.2.1 4 _ rfl, hF.2.1 5 _ rfl, hF.2.1 6 _ rfl, hF.2.1 7 _ rfl, hF.2.1 8 _ rfl, hF.2.1 9 _ rfl, hF.2.1 10 _ rfl, hF.2.1 11 _ rfl⟩; refine hK.out _ _ (fun _ => hF9) ?_; clear hK
  try simp only [zgB]
  refine Till.one (i := 4) (by kernel_rfl) rfl (fun J9 hK => ?_); have yr0 := hA.2.1 0 _ rfl; have yr1 := hA.2.1 1 _ rfl; have zr0 := hA.2.2 0; have zr1 := hA.2.2 1; go_simp; have gA := hA.puts [.slice a9 K9.sig.Y.length c9, .slice m9 K9.E.length n9] rfl; have gC := hC.sets_other (b := w.heap.size) (by omega) (zd 0 [.slice a9 K9.sig.Y.length c9, .slice m9 K9.E.length n9]); have gX := hX.sets_other (b := w.heap.size) (by omega) (zd 0 [.slice a9 K9.sig.Y.length c9, .slice m9 K9.E.length n9]); have gF := hF.sets_other (b := w.heap.size) (by omega) (zd 0 [.slice a9 K9.sig.Y.length c9, .slice m9 K9.E.length n9]); have hBE := zaa (b := w.heap.size) (zgo _) (zd 0 [.slice a9 K9.sig.Y.length c9, .slice m9 K9.E.length n9]) hBW; have hK1 := (Same2.refl w.heap.size (w.heap.size + 1) w3).sets (b := w.heap.size) (.inl rfl) (zd 0 [.slice a9 K9.sig.Y.length c9, .slice m9 K9.E.length n9]); simp only [zi, zd] at gA gC gX gF hBE hK1; clear hA hC hX hF hBW yr0 yr1 zr0 zr1; have hX := gX; have hF := gF; refine hK.out _ _ (fun _ => ⟨hX.2.1 0 _ rfl, hX.2.1 1 _ rfl, hF.2.1 0 _ rfl, hF.2.1 1 _ rfl, hF.2.1 2 _ rfl, hF.2.1 3 _ rfl, hF.2.1 4 _ rfl, hF.2.1 5 _ rfl, hF.2.1 6 _ rfl, hF.2.1 7 _ rfl, hF.2.1 8 _ rfl, hF.2.1 9 _ rfl, hF.2.1 10 _ rfl, hF.2.1 11 _ rfl⟩) ?_; clear hK
  try simp only [zgB]
  refine Till.one (i := 5) (by kernel_rfl) rfl (fun J9 hK => ?_); obtain ⟨y0, y1, y2, y3, y4, y5, y6, y7, y8, y9, y10, y11⟩ := yR12 gC.2.1 rfl; obtain ⟨z0, z1, z2, z3, z4, z5, z6, z7, z8, z9, z10, z11⟩ := yQ12 gC.2.2; go_simp; generalize (w3.setCell ⟨w.heap.size, 0, none⟩ (.slice a9 K9.sig.Y.length c9)).setCell ⟨w.heap.size, 1, none⟩ (.slice m9 K9.E.length n9) = w4 at *; have gC2 := gC.puts (yTl f b3 d3 b5 d5 b6 d6 b7 d7 b11 d11) rfl; have gA2 := gA.sets_other (b := w.heap.size + 1) (by omega) (zd 0 (yTl f b3 d3 b5 d5 b6 d6 b7 d7 b11 d11)); have hBE2 := zaa (b := w.heap.size + 1) (by omega) (zd 0 (yTl f b3 d3 b5 d5 b6 d6 b7 d7 b11 d11)) hBE; have hK2 := hK1.sets (b := w.heap.size + 1) (.inr rfl) (zd 0 (yTl f b3 d3 b5 d5 b6 d6 b7 d7 b11 d11)); simp only [zi, zd] at gC2 gA2 hBE2 hK2; refine hK.out _ _ (fun h => absurd h (by decide)) ?_; clear hK y0 z0 y1 z1 y2 z2 y3 z3 y4 z4 y5 z5 y6 z6 y7 z7 y8 z8 y9 z9 y10 z10 y11 z11
  try simp only [zgB]
  refine Till.done (by kernel_rfl) ?_ _; have r0 := gA2.2.1 0 _ rfl; have r1 := gA2.2.1 1 _ rfl; obtain ⟨e0, e1, e2, e3, e4, e5, e6, e7, e8, e9, e10, e11⟩ := yR12 gC2.2.1 rfl; have hr92 := hr9.same2 hK2 (fun b hb => by have := hk9 b hb; omega); have hrf2 := hrf.same2 hK2 (fun b hb => by have := hff b hb; omega); clear gC2 gA2 gC gA gX gF hX hF hF9 hBE hK1 hK2 hr9 hrf; go_wp2_with fail; refine bodyPost_ret (v := .tuple #[.agg #[.slice a9 K9.sig.Y.length c9, .slice m9 K9.E.length n9], .agg (yTa f b3 d3 b5 d5 b6 d6 b7 d7 b11 d11)]) (by simp [results, Tryz.results32, go_sem, r0, r1, e0, e1, e2, e3, e4, e5, e6, e7, e8, e9, e10, e11]) rfl ?_; exact ⟨⟨K9, f, _, _, _, _, _, _, _, _, _, _, _, _, _, _, _, _, by have := HF9.out; omega, hwf, rfl, hr92, hrf2⟩, hBE2⟩
theorem sameFm_n (n : Nat) : ∀ (x y : Fm) (vs us : List Value) (f f' : List Nat) (w : World), ndV x.cd ≤ n → RdVs w x.cd vs f → RdVs w y.cd us f' → Calls Tryz.prog 25 #[.agg vs.toArray, .agg us.toArray] w fun e w' => e = .returned (.bool (eqV x.cd y.cd)) ∧ Below w.heap.size w w' := by
 induction n with
 | zero => intro x y vs us f f' w hn; have h : 0 < ndV x.cd := (by rw [Fm.cd_eq]; simp [ndV, ndC]; try omega); omega
 | succ n ih =>
  intro x y vs us f f' w hn hv hx
  have HK : Hid (∀ k ∈ x.K, ndV k.cd ≤ n) := fun k hk => by have := Fm.kid_nd hk; omega
  have IH := zgn ih; clear ih; obtain ⟨a3, c3, f3, a5, c5, f5, a6, c6, f6, a7, c7, f7, a11, c11, f11, rfl, _, m0, m1, m2, m3, m4, m5, m6, m7, m8, m9⟩ := Fm.open hv; obtain ⟨a3', c3', f3', a5', c5', f5', a6', c6', f6', a7', c7', f7', a11', c11', f11', rfl, _, m0', m1', m2', m3', m4', m5', m6', m7', m8', m9'⟩ := Fm.open hx; go_enter Tryz.func25, Tryz.ntmps25
  cases tk1 : (x.kind == y.kind)
  ·have HF := zgn (Fm.eqv_kind tk1)
   go_wp2_with fail; go_ret; exact ⟨retB HF.out.symm, (((zgz _ _).alloc (zgo _) _).alloc (by simp) _)⟩
  have HT_kind := zgn tk1
  cases tk2 : (x.L.no == y.L.no)
  ·have HF := zgn (Fm.eqv_lit_no tk2)
   go_wp2_with fail; go_ret; exact ⟨retB HF.out.symm, (((zgz _ _).alloc (zgo _) _).alloc (by simp) _)⟩
  have HT_lit_no := zgn tk2; go_wp2_with fail; refine (zcz x.L.M y.L.M _ _ _ _ _ (by exact (Atm.close m1 m2 m3 m4 m5 m6 m7 m8).below (((zgz _ _).alloc (zgo _) _).alloc (by simp) _)) (by exact (Atm.close m1' m2' m3' m4' m5' m6' m7' m8').below (((zgz _ _).alloc (zgo _) _).alloc (by simp) _))).mono ?_; rintro e w1 ⟨rfl, hb1⟩; obtain ⟨hx1, hy1, hz1, hB1⟩ := box2 (w := w) (wr := w1) (cs := (yTa x a3 c3 a5 c5 a6 c6 a7 c7 a11 c11)) (ds := (yTa y a3' c3' a5' c5' a6' c6' a7' c7' a11' c11')) (T := 36) (U := 36) (zm hb1 (by simp))
  cases hq1 : eqV x.L.M.cd y.L.M.cd
  ·have HF := zgn (Fm.eqv_lit_atom hq1)
   clear hq1; go_wp2_with fail; go_ret; exact ⟨retB HF.out.symm, hB1⟩
  have HT_lit_atom := zgn hq1; clear hq1; go_wp2_with fail; refine ((zd3 x.K y.K (fun k hk y' vs us f f' w => IH.out k y' vs us f f' w (HK.out k hk))) _ _ _ _ _ (by exact m9.below hB1) (by exact m9'.below hB1)).mono ?_; rintro e w2 ⟨rfl, hb2⟩; have hB2 := hB1.trans (hb2.mono (by omega)); have hx2 := zh hx1 (by omega) hb2; have hy2 := zh hy1 (by omega) hb2; have hz2 := zgy hz1 hb2.size; clear hx1 hy1
  cases hq2 : eqR (x.K.map Fm.cd) (y.K.map Fm.cd)
  ·have HF := zgn (Fm.eqv_kids hq2)
   clear hq2; go_wp2_with fail; go_ret; exact ⟨retB HF.out.symm, hB2⟩
  have HT_kids := zgn hq2; clear hq2; go_wp2_with fail; go_ret
  exact ⟨retB (by rw [Fm.eqv, HT_kind.out, HT_lit_no.out, HT_lit_atom.out, HT_kids.out]; try rfl), hB2⟩
theorem zdV (x y : Fm) (vs us : List Value) (f f' : List Nat) (w : World) (hv : RdVs w x.cd vs f) (hx : RdVs w y.cd us f') :
  Calls Tryz.prog 25 #[.agg vs.toArray, .agg us.toArray] w fun e w' => e = .returned (.bool (eqV x.cd y.cd)) ∧ Below w.heap.size w w' := sameFm_n _ x y vs us f f' w (zgo _) hv hx
theorem eqV_fms (x y : List Fm) : eqV (zG x) (zG y) = eqR (x.map Fm.cd) (y.map Fm.cd) := by simp only [zG, zdi]
theorem sameFms_x (x y : List Fm) (v u : Value) (f f' : List Nat) (w : World) (hv : Rd w (.sl (x.map Fm.cd)) v f) (hx : Rd w (.sl (y.map Fm.cd)) u f') :
  Calls Tryz.prog 68 #[v, u] w fun e w' => e = .returned (.bool (eqV (zG x) (zG y))) ∧ Below w.heap.size w w' := by
 obtain ⟨a, c, rfl, hc1, hc2⟩ := zg hv; obtain ⟨a', c', rfl, hc1', hc2'⟩ := zg hx; rw [eqV_fms]; go_enter Tryz.func68, Tryz.ntmps68; go_wp2_with fail; refine (zd3 x y (fun x _ y vs us f f' w => zdV x y vs us f f' w) _ _ _ _ _ hv hx).mono ?_; rintro e w1 ⟨rfl, hb1⟩; go_wp2_with fail; go_ret; exact ⟨rfl, hb1⟩
theorem zeY (xs ys : List (List Fm)) (v u : Value) (f f' : List Nat) (w : World) (hv : Rd w (.sl (xs.map zG)) v f) (hx : Rd w (.sl (ys.map zG)) u f') : Calls Tryz.prog 67 #[v, u, .func (.func 68) #[] #[]] w fun e w' => e = .returned (.bool (eqR (xs.map zG) (ys.map zG))) ∧ Below w.heap.size w w' := zfo xs ys (fun x _ y v u f f' w hv hx => sameFms_x x y v u f f' w hv hx) v u f f' w hv hx
theorem sameStk_x (x y : Stk) (vs us : List Value) (f f' : List Nat) (w : World) (hv : RdVs w x.cd vs f) (hx : RdVs w y.cd us f') :
  Calls Tryz.prog 31 #[.agg vs.toArray, .agg us.toArray] w fun e w' => e = .returned (.bool (eqV x.cd y.cd)) ∧ Below w.heap.size w w' := by
 obtain ⟨a0, c0, f0, a1, c1, f1, rfl, _, m0, m1⟩ := Stk.open hv; obtain ⟨a0', c0', f0', a1', c1', f1', rfl, _, m0', m1'⟩ := Stk.open hx; go_enter Tryz.func31, Tryz.ntmps31; go_wp2_with fail; refine (sameSg_x x.sig y.sig _ _ _ _ _ (by exact (Sg.close m0).below (((zgz _ _).alloc (zgo _) _).alloc (by simp) _)) (by exact (Sg.close m0').below (((zgz _ _).alloc (zgo _) _).alloc (by simp) _))).mono ?_; rintro e w1 ⟨rfl, hb1⟩; obtain ⟨hx1, hy1, hz1, hB1⟩ := box2 (w := w) (wr := w1) (cs := #[.slice a0 x.sig.Y.length c0, .slice a1 x.E.length c1]) (ds := #[.slice a0' y.sig.Y.length c0', .slice a1' y.E.length c1']) (T := 53) (U := 53) (zm hb1 (by simp))
 cases hq1 : eqV x.sig.cd y.sig.cd
 ·have HF := zgn (Stk.eqv_sig hq1)
  clear hq1; go_wp2_with fail; go_ret; exact ⟨retB HF.out.symm, hB1⟩
 have HT_sig := zgn hq1; clear hq1; go_wp2_with fail; refine (zeY x.E y.E _ _ _ _ _ (by exact m1.below hB1) (by exact m1'.below hB1)).mono ?_; rintro e w2 ⟨rfl, hb2⟩; have hB2 := hB1.trans (hb2.mono (by omega)); have hx2 := zh hx1 (by omega) hb2; have hy2 := zh hy1 (by omega) hb2; have hz2 := zgy hz1 hb2.size; clear hx1 hy1
 cases hq2 : eqR (x.E.map zG) (y.E.map zG)
 ·have HF := zgn (Stk.eqv_levels hq2)
  clear hq2; go_wp2_with fail; go_ret; exact ⟨retB HF.out.symm, hB2⟩
 have HT_levels := zgn hq2; clear hq2; go_wp2_with fail; go_ret
 exact ⟨retB (by rw [Stk.eqv, HT_sig.out, HT_levels.out]; try rfl), hB2⟩
def RtOut (P : Stk) (b : Bool) (w : World) (e : Ending) (w' : World) : Prop := ∃ (us : List Value) (fs : List Nat), e = .returned (.tuple #[.agg us.toArray, .bool b]) ∧ RdVs w' P.cd us fs ∧ Below w.heap.size w w'
theorem tell_as (K P : Stk) (f : Fm) (b : Bool) (h : K.tell f = (P, b)) (vs : List Value) (us : List Value) (gk : List Nat) (ff : List Nat) (w : World) (hbig : wtV K.cd + (wtV f.cd + 1) ≤ 1048576) (hv : RdVs w K.cd vs gk) (hf : RdVs w f.cd us ff) :
  Calls Tryz.prog 33 #[.agg vs.toArray, .agg us.toArray] w (RtOut P b w) := by
 refine (zdQ K f vs us gk ff w hbig hv hf).mono ?_; rintro e w' ⟨us, fs, he, hr, _, hb⟩; rw [h] at he hr; exact ⟨us, fs, he, hr, hb⟩
theorem tellS_as (K P : Stk) (f : Fm) (b : Bool) (h : K.tell f = (P, b)) (vs : List Value) (us : List Value) (gk : List Nat) (ff : List Nat) (w : World) (hbig : wtV K.cd + (wtV f.cd + 1) ≤ 1048576) (hv : RdVs w K.cd vs gk) (hf : RdVs w f.cd us ff) :
  Calls Tryz.prog 34 #[.agg vs.toArray, .agg us.toArray] w (RtOut P b w) := by
 refine (zbt K f vs us gk ff w hbig hv hf).mono ?_; rintro e w' ⟨us, fs, he, hr, _, hb⟩; rw [h] at he hr; exact ⟨us, fs, he, hr, hb⟩
theorem zcV (P : Stk) (vs us : List Value) (f g : List Nat) (w : World) (hv : RdVs w P.cd vs f) (hu : RdVs w P.cd us g) :
  Calls Tryz.prog 31 #[.agg vs.toArray, .agg us.toArray] w fun e w' => e = .returned (.bool true) ∧ Below w.heap.size w w' := by
 have h := sameStk_x P P vs us f g w hv hu
 have he : eqV P.cd P.cd = true := by rw [zaH]
 rw [he] at h; exact h
theorem tell_yes {K T : Stk} {f : Fm} (h : K.tell f = (T, true)) : K.okK = true ∧ T = K.told f ∧ T.okK = true := by
 unfold Stk.tell at h
 split at h
 ·rename_i hk
  split at h
  ·rename_i ho
   simp only [Prod.mk.injEq, and_true] at h; exact ⟨hk, h.symm, by rw [← h]; exact ho⟩
  ·simp at h
 ·simp at h
theorem zfg {K T : Stk} {f : Fm} (h : K.tell f = (T, false)) : (K.okK = true → T = K) ∧ (K.okK = false → T = ⟨⟨[]⟩, []⟩) := by
 unfold Stk.tell at h
 split at h
 ·rename_i hk
  split at h
  ·simp at h
  ·simp only [Prod.mk.injEq, and_true] at h
   exact ⟨fun _ => h.symm, fun e => by rw [hk] at e; simp at e⟩
 ·rename_i hk
  simp only [Prod.mk.injEq, and_true] at h; exact ⟨fun e => absurd e hk, fun _ => h.symm⟩
theorem told_flat {K : Stk} {f : Fm} (h : K.okK = true) : (K.told f).E.flatten = K.E.flatten ++ [f] ∧ (K.told f).E.length = K.E.length ∧ (K.told f).sig = K.sig := by
 have h1 : ∃ a l, K.E = a ++ [l] := by
  rcases List.eq_nil_or_concat K.E with h1 | ⟨a, l, h1⟩
  ·have := (Stk.okK_len h).1; rw [h1] at this; simp at this
  ·exact ⟨a, l, by rw [h1, List.concat_eq_append]⟩
 obtain ⟨a, l, hl⟩ := h1; rw [Stk.told_eq hl, hl]; simp
theorem tell_wt {K T : Stk} {f : Fm} {b : Bool} (h : K.tell f = (T, b)) : wtV T.cd ≤ wtV K.cd + (wtV f.cd + 1) := by
 unfold Stk.tell at h
 split at h
 ·rename_i hk
  split at h
  ·simp only [Prod.mk.injEq] at h
   rcases List.eq_nil_or_concat K.E with h1 | ⟨a, l, h1⟩
   ·have := (Stk.okK_len hk).1; rw [h1] at this; simp at this
   ·rw [← h.1, zdP (a := a) (l := l) (by rw [h1, List.concat_eq_append])]
    exact zgo _
  ·simp only [Prod.mk.injEq] at h
   rw [← h.1]; omega
 ·simp only [Prod.mk.injEq] at h
  rw [← h.1, zaf]; simp [wtR, Sg.cd, wtV, wtC]
namespace Tm
end Tm
end Go.Proofs.YtbfinjiledfpcaaGreat
end
namespace Go.Proofs.YtbfinjiledfpcaaGreat
open Go Go.RowKit
set_option linter.unusedVariables false
set_option linter.unusedSimpArgs false
set_option maxHeartbeats 1600000
set_option maxRecDepth 100000
end Go.Proofs.YtbfinjiledfpcaaGreat
namespace Go.Proofs.YtbfinjiledfpcaaGreat
open Go Go.RowKit
set_option linter.unusedVariables false
set_option linter.unusedSimpArgs false
set_option maxHeartbeats 1600000
set_option maxRecDepth 100000
end Go.Proofs.YtbfinjiledfpcaaGreat
/- mark and held of struct values: their slices alone. -/
namespace Go.Proofs.YtbfinjiledfpcaaGreat
open Go Go.RowKit
set_option linter.unusedVariables false
set_option linter.unusedSimpArgs false
set_option linter.unusedVariables false
end Go.Proofs.YtbfinjiledfpcaaGreat
/- How many scalars there are, bound by the law's weight. -/
namespace Go.Proofs.YtbfinjiledfpcaaGreat
open Go Go.RowKit
set_option linter.unusedVariables false
set_option linter.unusedSimpArgs false
end Go.Proofs.YtbfinjiledfpcaaGreat
/- The assertions of a stack, copied: both sides. -/
namespace Go.Proofs.YtbfinjiledfpcaaGreat
open Go Go.RowKit
set_option linter.unusedVariables false
set_option linter.unusedSimpArgs false
def zci (k : Stk) : List Fm := if k.okK then k.E.flatten else []
theorem stkFms_no {k : Stk} (h : k.okK = false) : zci k = [] := by unfold zci; rw [h]; rfl
theorem zbq {k : Stk} (h : k.okK = true) : zci k = k.E.flatten := by unfold zci; rw [h]; rfl
theorem rd_sl0 {w : World} {α : Type} {cd : α → List CD} (a : Option Addr) : Rd w (.sl (([] : List α).map cd)) (.slice a 0 0) [] := by
 simp only [List.map_nil, Rd]; exact ⟨a, 0, rfl, by simp, by simp [maxLen], by simp⟩
set_option maxHeartbeats 4000000 in
theorem zbv (k : Stk) (vs : List Value) (f : List Nat) (w : World) (hbig : wtV k.cd ≤ 1048576) (hv : RdVs w k.cd vs f) :
  Calls Tryz.prog 22 #[.agg vs.toArray] w (zda (.sl ((zci k).map Fm.cd)) w) := by
 have hv0 := hv; obtain ⟨a0, c0, f0, a1, c1, f1, rfl, _, m0, m1⟩ := Stk.open hv; have hfb := Stk.flat_big hbig; have hb0 := zb w (.cells #[.slice a0 k.sig.Y.length c0, .slice a1 k.E.length c1] 53); go_enter Tryz.func22, Tryz.ntmps22; go_wp2_with fail; refine (zaV k _ _ _ hbig (by exact hv0.below hb0)).mono ?_; rintro e w1 ⟨rfl, hb1⟩; obtain ⟨hx, hz1, hB⟩ := box1 (w := w) (wr := w1) (cs := #[.slice a0 k.sig.Y.length c0, .slice a1 k.E.length c1]) (T := 53) (zm hb1 (by simp)); have X0 := hx 0; have X1 := hx 1; simp only [zgd, zgb, zgc] at X0 X1; clear hb1 hx
 cases hok : k.okK
 ·have HE := zgn (stkFms_no hok)
  clear hok; go_wp2_with fail; go_ret; exact ⟨_, [], rfl, by rw [HE.out]; exact rd_sl0 _, Fresh.nil _ _, hB⟩
 ·have HE := zgn (zbq hok)
  clear hok; go_wp2_with fail; refine (zel k _ _ _ hfb (by exact hv0.below hB)).mono ?_; rintro e w2 ⟨⟨rv, rf, rfl, hr⟩, hb2⟩; have hB2 := hB.trans (hb2.mono (by omega)); have hz2 := hb2.size; clear hb2 X0 X1; obtain ⟨fs, hfs⟩ : ∃ fs, fs = k.E.flatten := ⟨_, rfl⟩; have HE2 : Hid (zci k = fs) := zgn (by rw [HE.out, hfs]); rw [← hfs] at hr hfb; clear hfs; obtain ⟨ra, rc, rfl, _, _⟩ := zg hr; go_wp2_with fail; refine (zfw fs _ _ _ hfb (by exact hr)).mono ?_; rintro e w3 ⟨kv, fp, rfl, hr3, hf3, hb3⟩; obtain ⟨ka, kc, rfl, _, _⟩ := zg hr3; have hB3 := hB2.trans (hb3.mono (by omega)); go_wp2_with fail; go_ret; exact ⟨_, fp, rfl, by rw [HE2.out]; exact hr3, hf3.mono (by omega), hB3⟩
end Go.Proofs.YtbfinjiledfpcaaGreat
/- The law FnExactStackForms returns true. -/
namespace Go.Proofs.YtbfinjiledfpcaaGreat
open Go Go.RowKit
set_option linter.unusedVariables false
set_option linter.unusedSimpArgs false
end Go.Proofs.YtbfinjiledfpcaaGreat
section
namespace Go.Proofs.YtbfinjiledfpcaaGreat
open Go Go.RowKit
set_option linter.unusedVariables false
set_option linter.unusedSimpArgs false
set_option maxRecDepth 100000
set_option maxHeartbeats 16000000
theorem zcW (v : Value) (w : World) (hv : Byts w v) :
  Calls Tryz.prog 8 #[v] w fun e w' => e = .returned (.bool true) ∧ Below w.heap.size w w' := by
 have hv0 := hv; obtain ⟨a9, n, cap, rfl, hn1, hn2, _⟩ := hv
 by_cases hlen : n ≤ 1048576
 rotate_left
 ·have hlb0 : decide ((1048576 : Int) < (n : Int)) = true := decide_eq_true (by omega)
  go_enter Tryz.func8, Tryz.ntmps8; go_wp2_with fail; go_ret; exact ⟨rfl, zgz _ _⟩
 have hlb0 : decide ((1048576 : Int) < (n : Int)) = false := decide_eq_false (by omega)
 go_enter Tryz.func8, Tryz.ntmps8; go_wp2_with fail; refine (zb7 _ _ hv0).mono ?_; rintro e w1 ⟨⟨K, f, ka, kc, kl, km, b3, d3, b5, d5, b6, d6, b7, d7, b11, d11, kf, ff, hwt, hwf, rfl, hrk, hrf⟩, hB⟩; obtain ⟨kB, hkB⟩ : ∃ F, F = w1.heap.size := ⟨_, rfl⟩; obtain ⟨fB, hfB⟩ : ∃ G, G = kB + 1 := ⟨_, rfl⟩; have hK := (Box.new w1 [.slice ka K.sig.Y.length kc, .slice kl K.E.length km] 53).alloc (.cells (yTa f b3 d3 b5 d5 b6 d6 b7 d7 b11 d11) 36); have hF := Box.new (w1.alloc (.cells #[.slice ka K.sig.Y.length kc, .slice kl K.E.length km] 53)) (yTl f b3 d3 b5 d5 b6 d6 b7 d7 b11 d11) 36; rw [zgs] at hF; rw [← hkB, ← hfB] at hF; rw [← hkB] at hK; go_upto_region 4 with fail
 try rw [← hkB]
 try rw [← hfB]
 have hba : Below w1.heap.size w1 ((w1.alloc (.cells #[.slice ka K.sig.Y.length kc, .slice kl K.E.length km] 53)).alloc (.cells (yTa f b3 d3 b5 d5 b6 d6 b7 d7 b11 d11) 36)) := ((zgz _ _).alloc (zgo _) _).alloc (by simp) _; replace hrk := hrk.below hba; replace hrf := hrf.below hba; replace hB := hB.trans (hba.mono hB.size); clear hba hkB hfB; generalize (w1.alloc (.cells #[.slice ka K.sig.Y.length kc, .slice kl K.E.length km] 53)).alloc (.cells (yTa f b3 d3 b5 d5 b6 d6 b7 d7 b11 d11) 36) = w2 at *; obtain ⟨⟨T, b1⟩, hT⟩ : ∃ T, K.tell f = T := ⟨_, rfl⟩; have HT := zgn hT; have hwT := tell_wt hT; clear hT; have kq0 := hK.2.1 0 _ rfl; have kq1 := hK.2.1 1 _ rfl; obtain ⟨fq0, fq1, fq2, fq3, fq4, fq5, fq6, fq7, fq8, fq9, fq10, fq11⟩ := yR12 hF.2.1 rfl; go_wp2_with fail; refine (tell_as K T f b1 HT.out _ _ _ _ _ (by omega) (by exact hrk) (by exact hrf)).mono ?_; rintro e w3 ⟨us, xf, rfl, hrx, hb⟩; obtain ⟨xa, xc, _, xl, xm, _, rfl, _, _, _⟩ := Stk.open hrx; replace hrk := hrk.below hb; replace hrf := hrf.below hb; replace hK := hK.below hb; replace hF := hF.below hb; replace hB := hB.trans (hb.mono hB.size); clear hb; clear kq0 kq1 fq0 fq1 fq2 fq3 fq4 fq5 fq6 fq7 fq8 fq9 fq10 fq11; obtain ⟨xB, xBe⟩ : ∃ S, S = w3.heap.size := ⟨_, rfl⟩; have hX := Box.new w3 [.slice xa T.sig.Y.length xc, .slice xl T.E.length xm] 53; rw [← xBe] at hX; go_upto_region 5 with fail; rw [← xBe]; have hba := zb w3 (.cells #[.slice xa T.sig.Y.length xc, .slice xl T.E.length xm] 53); replace hrk := hrk.below hba; replace hrf := hrf.below hba; replace hK := hK.below hba; replace hF := hF.below hba; replace hrx := hrx.below hba; replace hB := hB.trans (hba.mono hB.size); clear hba xBe; generalize w3.alloc (.cells #[.slice xa T.sig.Y.length xc, .slice xl T.E.length xm] 53) = w4 at *; have kq0 := hK.2.1 0 _ rfl; have kq1 := hK.2.1 1 _ rfl; obtain ⟨fq0, fq1, fq2, fq3, fq4, fq5, fq6, fq7, fq8, fq9, fq10, fq11⟩ := yR12 hF.2.1 rfl; go_wp2_with fail; refine (tellS_as K T f b1 HT.out _ _ _ _ _ (by omega) (by exact hrk) (by exact hrf)).mono ?_; rintro e w5 ⟨us, yf, rfl, hry, hb⟩; obtain ⟨ya, yc, _, yl, ym, _, rfl, _, _, _⟩ := Stk.open hry; replace hrk := hrk.below hb; replace hrf := hrf.below hb; replace hK := hK.below hb; replace hF := hF.below hb; replace hrx := hrx.below hb; replace hX := hX.below hb; replace hB := hB.trans (hb.mono hB.size); clear hb; clear kq0 kq1 fq0 fq1 fq2 fq3 fq4 fq5 fq6 fq7 fq8 fq9 fq10 fq11; obtain ⟨yB, yBe⟩ : ∃ S, S = w5.heap.size := ⟨_, rfl⟩; have hY := Box.new w5 [.slice ya T.sig.Y.length yc, .slice yl T.E.length ym] 53; rw [← yBe] at hY; go_upto_region 6 with fail; rw [← yBe]; have hba := zb w5 (.cells #[.slice ya T.sig.Y.length yc, .slice yl T.E.length ym] 53); replace hrk := hrk.below hba; replace hrf := hrf.below hba; replace hK := hK.below hba; replace hF := hF.below hba; replace hrx := hrx.below hba; replace hX := hX.below hba; replace hry := hry.below hba; replace hB := hB.trans (hba.mono hB.size); clear hba yBe; generalize w5.alloc (.cells #[.slice ya T.sig.Y.length yc, .slice yl T.E.length ym] 53) = w6 at *
 have n1 : (b1 != b1) = false := by cases b1 <;> rfl
 obtain ⟨ko, hko⟩ : ∃ b, K.okK = b := ⟨_, rfl⟩; have HKO := zgn hko; clear hko
 have n2 : (ko != ko) = false := by cases ko <;> rfl
 have ok1 : ∀ (W' : World) (us : List Value) (gf : List Nat), RdVs W' K.cd us gf → Calls Tryz.prog 35 #[.agg us.toArray] W' fun e w' => e = .returned (.bool ko) ∧ Below W'.heap.size W' w' := fun W' us gf h => by
  have h3 := zaV K us gf W' (by omega) h; rw [HKO.out] at h3; exact h3
 have ok2 : ∀ (W' : World) (us : List Value) (gf : List Nat), RdVs W' K.cd us gf → Calls Tryz.prog 24 #[.agg us.toArray] W' fun e w' => e = .returned (.bool ko) ∧ Below W'.heap.size W' w' := fun W' us gf h => by
  have h3 := zaO K us gf W' (by omega) h; rw [HKO.out] at h3; exact h3
 have HO1 := zgn ok1; have HO2 := zgn ok2; clear ok1 ok2; have kq0 := hK.2.1 0 _ rfl; have kq1 := hK.2.1 1 _ rfl; have xq0 := hX.2.1 0 _ rfl; have xq1 := hX.2.1 1 _ rfl; have yq0 := hY.2.1 0 _ rfl; have yq1 := hY.2.1 1 _ rfl; go_wp2_with fail; have rkq0 := cell_regrown kq0; have rkq1 := cell_regrown kq1; have rxq0 := cell_regrown xq0; have rxq1 := cell_regrown xq1; have ryq0 := cell_regrown yq0; have ryq1 := cell_regrown yq1; refine wp_region_quiet_below (by kernel_rfl) (by kernel_rfl) ?_
 repeat (go_big_quiet_step (with_reducible refine zgr (by first | exact zcV T _ _ _ _ _ (hrx.below (below_regrown _ _ _)) (hry.below (below_regrown _ _ _)) | exact HO1.out _ _ _ (hrk.below (below_regrown _ _ _)) | exact HO2.out _ _ _ (hrk.below (below_regrown _ _ _)))))
 refine wpQuiet_nil ?_; intro v0 hq9; obtain ⟨⟨dq, osq⟩, hq9⟩ := hq9; have hb9 : Below w6.heap.size w6 v0 := hq9 ▸ below_regrown w6 dq osq; clear hq9; clear rkq0 rkq1 rxq0 rxq1 ryq0 ryq1; replace hrk := hrk.below hb9; replace hrf := hrf.below hb9; replace hK := hK.below hb9; replace hF := hF.below hb9; replace hrx := hrx.below hb9; replace hX := hX.below hb9; replace hry := hry.below hb9; replace hY := hY.below hb9; replace hB := hB.trans (hb9.mono hB.size); clear hb9; clear kq0 kq1 xq0 xq1 yq0 yq1
 cases b1
 ·have kq0 := hK.2.1 0 _ rfl
  have kq1 := hK.2.1 1 _ rfl; go_wp2_with fail; refine (HO2.out _ _ _ (by exact hrk)).mono ?_; rintro e v1 ⟨rfl, hb⟩; replace hrk := hrk.below hb; replace hrf := hrf.below hb; replace hK := hK.below hb; replace hF := hF.below hb; replace hrx := hrx.below hb; replace hX := hX.below hb; replace hry := hry.below hb; replace hY := hY.below hb; replace hB := hB.trans (hb.mono hB.size); clear hb n1 n2; clear kq0 kq1
  cases ko
  ·obtain rfl := (zfg HT.out).2 HKO.out
   have kq0 := hK.2.1 0 _ rfl; have kq1 := hK.2.1 1 _ rfl; go_wp2_with fail; refine (HO2.out _ _ _ (by exact hrk)).mono ?_; rintro e v2 ⟨rfl, hb⟩; replace hrk := hrk.below hb; replace hrf := hrf.below hb; replace hK := hK.below hb; replace hF := hF.below hb; replace hrx := hrx.below hb; replace hX := hX.below hb; replace hry := hry.below hb; replace hY := hY.below hb; replace hB := hB.trans (hb.mono hB.size); clear hb; clear kq0 kq1; have xq0 := hX.2.1 0 _ rfl; have xq1 := hX.2.1 1 _ rfl; go_wp2_with fail; refine (zcV ⟨⟨[]⟩, []⟩ _ _ _ _ _ (by exact hrx) (by exact zbQ _)).mono ?_; rintro e v3 ⟨rfl, hb⟩; replace hB := hB.trans (hb.mono hB.size); go_wp2_with fail; go_ret; exact ⟨rfl, hB⟩
  ·obtain rfl := (zfg HT.out).1 HKO.out
   have kq0 := hK.2.1 0 _ rfl; have kq1 := hK.2.1 1 _ rfl; have xq0 := hX.2.1 0 _ rfl; have xq1 := hX.2.1 1 _ rfl; go_wp2_with fail; refine (zcV T _ _ _ _ _ (by exact hrx) (by exact hrk)).mono ?_; rintro e v3 ⟨rfl, hb⟩; replace hB := hB.trans (hb.mono hB.size); go_wp2_with fail; go_ret; exact ⟨rfl, hB⟩
 ·clear n1 n2
  obtain ⟨hko, hTe, hTo⟩ := tell_yes HT.out; obtain ⟨hfl1, hfl2, hfl3⟩ := told_flat (f := f) hko; rw [← hTe] at hfl1 hfl2; obtain ⟨A, hA⟩ : ∃ A, zci K = A := ⟨_, rfl⟩; obtain ⟨D, hD⟩ : ∃ A, zci T = A := ⟨_, rfl⟩; have HD : Hid (D = A ++ [f]) := zgn (by rw [← hD, ← hA, zbq hTo, zbq hko, hfl1])
  have hDl1 : D.length ≤ A.length + 1 := by rw [HD.out]; simp
  have hDl2 : A.length + 1 ≤ D.length := by rw [HD.out]; simp
  have hlv : ((T.E.length : Int) == (K.E.length : Int)) = true := by rw [hfl2]; simp
  have okx : ∀ (W' : World) (us : List Value) (gf : List Nat), RdVs W' T.cd us gf → Calls Tryz.prog 35 #[.agg us.toArray] W' fun e w' => e = .returned (.bool true) ∧ Below W'.heap.size W' w' := fun W' us gf h => by
   have h3 := zaV T us gf W' (by omega) h; rw [hTo] at h3; exact h3
  have HOX := zgn okx
  have hbA : A.length ≤ 1048576 := by rw [← hA, zbq hko]; have := Stk.flat_big (k := K) (by omega); omega
  clear okx hko hTe hTo hfl1 hfl2 hfl3; have kq0 := hK.2.1 0 _ rfl; have kq1 := hK.2.1 1 _ rfl; go_wp2_with fail; refine (zbv K _ _ _ (by omega) (by exact hrk)).mono ?_; rintro e v1 ⟨av, af, rfl, hra, _, hb⟩; rw [hA] at hra; clear hA; replace hrk := hrk.below hb; replace hrf := hrf.below hb; replace hK := hK.below hb; replace hF := hF.below hb; replace hrx := hrx.below hb; replace hX := hX.below hb; replace hry := hry.below hb; replace hY := hY.below hb; replace hB := hB.trans (hb.mono hB.size); clear hb; clear kq0 kq1; have xq0 := hX.2.1 0 _ rfl; have xq1 := hX.2.1 1 _ rfl; go_wp2_with fail; refine (zbv T _ _ _ (by omega) (by exact hrx)).mono ?_; rintro e v2 ⟨dv, df, rfl, hrd, _, hb⟩; rw [hD] at hrd; clear hD; replace hrk := hrk.below hb; replace hrf := hrf.below hb; replace hK := hK.below hb; replace hF := hF.below hb; replace hrx := hrx.below hb; replace hX := hX.below hb; replace hry := hry.below hb; replace hY := hY.below hb; replace hra := hra.below hb; replace hB := hB.trans (hb.mono hB.size); clear hb; clear xq0 xq1; obtain ⟨aa, ac, rfl, _, _⟩ := zg hra; obtain ⟨da, dc, rfl, _, _⟩ := zg hrd
  have hne : ((D.length : Int) != ((A.length : Int) + 1)) = false := by simp; omega
  have hAD : A.length < D.length := by omega
  have hAD2 : (A.length : Int) < (D.length : Int) := by omega
  have HE : Hid (eqV D[A.length].cd f.cd = true) := zgn (by
   rw [zaH]
   have e : D[A.length] = f := by simp only [HD.out]; rw [List.getElem_append_right (zgo _)]; simp
   rw [e])
  obtain ⟨bd, od, rfl, hbd, _⟩ := zl hrd (by omega); obtain ⟨ga3, gc3, gf3, ga5, gc5, gf5, ga6, gc6, gf6, ga7, gc7, gf7, ga11, gc11, gf11, gd0, gd1, gd2, gd3, gd4, gd5, gd6, gd7, gd8, gd9, gd10, gd11, gm0, gm1, gm2, gm3, gm4, gm5, gm6, gm7, gm8, gm9, _⟩ := Fm.at (hrd) hAD; obtain ⟨fq0, fq1, fq2, fq3, fq4, fq5, fq6, fq7, fq8, fq9, fq10, fq11⟩ := yR12 hF.2.1 rfl; have xq0 := hX.2.1 0 _ rfl; have xq1 := hX.2.1 1 _ rfl
  have hcf : ∀ W', RdVs W' D[A.length].cd (yTl D[A.length] ga3 gc3 ga5 gc5 ga6 gc6 ga7 gc7 ga11 gc11) (gf3 ++ (gf5 ++ (gf6 ++ (gf7 ++ gf11)))) → RdVs W' f.cd (yTl f b3 d3 b5 d5 b6 d6 b7 d7 b11 d11) ff → Calls Tryz.prog 25 #[.agg (yTa D[A.length] ga3 gc3 ga5 gc5 ga6 gc6 ga7 gc7 ga11 gc11), .agg (yTa f b3 d3 b5 d5 b6 d6 b7 d7 b11 d11)] W' fun e w' => e = .returned (.bool true) ∧ Below W'.heap.size W' w' := fun W' h1 h2 => by
   have h3 := zdV D[A.length] f _ _ _ _ W' h1 h2; rw [HE.out] at h3; exact h3
  go_wp2_with fail; have gq0 := cell_regrown gd0; have gq1 := cell_regrown gd1; have gq2 := cell_regrown gd2; have gq3 := cell_regrown gd3; have gq4 := cell_regrown gd4; have gq5 := cell_regrown gd5; have gq6 := cell_regrown gd6; have gq7 := cell_regrown gd7; have gq8 := cell_regrown gd8; have gq9 := cell_regrown gd9; have gq10 := cell_regrown gd10; have gq11 := cell_regrown gd11; have rfq0 := cell_regrown fq0; have rfq1 := cell_regrown fq1; have rfq2 := cell_regrown fq2; have rfq3 := cell_regrown fq3; have rfq4 := cell_regrown fq4; have rfq5 := cell_regrown fq5; have rfq6 := cell_regrown fq6; have rfq7 := cell_regrown fq7; have rfq8 := cell_regrown fq8; have rfq9 := cell_regrown fq9; have rfq10 := cell_regrown fq10; have rfq11 := cell_regrown fq11; have rxq0 := cell_regrown xq0; have rxq1 := cell_regrown xq1; refine wp_region_quiet_below (by kernel_rfl) (by kernel_rfl) ?_
  repeat (go_big_quiet_step (with_reducible refine zgr (by first | exact hcf _ ((Fm.close gm0 gm1 gm2 gm3 gm4 gm5 gm6 gm7 gm8 gm9).below (below_regrown _ _ _)) (hrf.below (below_regrown _ _ _)) | exact HOX.out _ _ _ (hrx.below (below_regrown _ _ _)))))
  refine wpQuiet_nil ?_; intro v3 hq9; obtain ⟨⟨dq, osq⟩, hq9⟩ := hq9; have hb9 : Below v2.heap.size v2 v3 := hq9 ▸ below_regrown v2 dq osq; clear hq9; clear hcf rxq0 rxq1 gq0 gq1 gq2 gq3 gq4 gq5 gq6 gq7 gq8 gq9 gq10 gq11 rfq0 rfq1 rfq2 rfq3 rfq4 rfq5 rfq6 rfq7 rfq8 rfq9 rfq10 rfq11 gd0 gd1 gd2 gd3 gd4 gd5 gd6 gd7 gd8 gd9 gd10 gd11 gm0 gm1 gm2 gm3 gm4 gm5 gm6 gm7 gm8 gm9; replace hrk := hrk.below hb9; replace hrf := hrf.below hb9; replace hK := hK.below hb9; replace hF := hF.below hb9; replace hrx := hrx.below hb9; replace hX := hX.below hb9; replace hry := hry.below hb9; replace hY := hY.below hb9; replace hra := hra.below hb9; replace hrd := hrd.below hb9; replace hB := hB.trans (hb9.mono hB.size); clear hb9; clear fq0 fq1 fq2 fq3 fq4 fq5 fq6 fq7 fq8 fq9 fq10 fq11 xq0 xq1; go_wp2_with fail; have hw3 := hB.size
  go_loopw [11] (fun iv wr => ∃ i : Nat, i ≤ A.length ∧ iv = .int .i64 i ∧ Below v3.heap.size v3 wr) (fun iv _ => A.length - (intOf iv).toNat)
  case atStart => exact ⟨0, zgx _, rfl, zgz _ _⟩
  case round =>
   obtain ⟨i, hi, rfl, hb⟩ := hrel; have hz := hb.size
   by_cases hlt : i < A.length
   ·have hiD : i < D.length := by omega
    have HE2 : Hid (eqV A[i].cd D[i].cd = true) := zgn (by
     rw [zaH]
     have e : D[i] = A[i] := by simp only [HD.out]; rw [List.getElem_append_left hlt]
     rw [e])
    obtain ⟨b1, o1, rfl, hbs1, _⟩ := zl hra (by omega); obtain ⟨xa3, xc3, xf3, xa5, xc5, xf5, xa6, xc6, xf6, xa7, xc7, xf7, xa11, xc11, xf11, xd0, xd1, xd2, xd3, xd4, xd5, xd6, xd7, xd8, xd9, xd10, xd11, xm0, xm1, xm2, xm3, xm4, xm5, xm6, xm7, xm8, xm9, _⟩ := Fm.at (hra.below hb) hlt; obtain ⟨ya3, yc3, yf3, ya5, yc5, yf5, ya6, yc6, yf6, ya7, yc7, yf7, ya11, yc11, yf11, yd0, yd1, yd2, yd3, yd4, yd5, yd6, yd7, yd8, yd9, yd10, yd11, ym0, ym1, ym2, ym3, ym4, ym5, ym6, ym7, ym8, ym9, _⟩ := Fm.at (hrd.below hb) hiD; go_wp2_with fail; have xq0 := cell_regrown xd0; have xq1 := cell_regrown xd1; have xq2 := cell_regrown xd2; have xq3 := cell_regrown xd3; have xq4 := cell_regrown xd4; have xq5 := cell_regrown xd5; have xq6 := cell_regrown xd6; have xq7 := cell_regrown xd7; have xq8 := cell_regrown xd8; have xq9 := cell_regrown xd9; have xq10 := cell_regrown xd10; have xq11 := cell_regrown xd11; have yq0 := cell_regrown yd0; have yq1 := cell_regrown yd1; have yq2 := cell_regrown yd2; have yq3 := cell_regrown yd3; have yq4 := cell_regrown yd4; have yq5 := cell_regrown yd5; have yq6 := cell_regrown yd6; have yq7 := cell_regrown yd7; have yq8 := cell_regrown yd8; have yq9 := cell_regrown yd9; have yq10 := cell_regrown yd10; have yq11 := cell_regrown yd11; refine wp_region_quiet_below (by kernel_rfl) (by kernel_rfl) ?_
    repeat (quiet_step (refine zgr (zdV A[i] D[i] _ _ _ _ _ ((Fm.close xm0 xm1 xm2 xm3 xm4 xm5 xm6 xm7 xm8 xm9).below (below_regrown _ _ _)) ((Fm.close ym0 ym1 ym2 ym3 ym4 ym5 ym6 ym7 ym8 ym9).below (below_regrown _ _ _)))))
    refine wpQuiet_nil ?_; intro wq9 hq9; obtain ⟨⟨dq, osq⟩, hq9⟩ := hq9; have hb9 : Below wr.heap.size wr wq9 := hq9 ▸ below_regrown wr dq osq; clear hq9; clear xq0 xq1 xq2 xq3 xq4 xq5 xq6 xq7 xq8 xq9 xq10 xq11 yq0 yq1 yq2 yq3 yq4 yq5 yq6 yq7 yq8 yq9 yq10 yq11; rw [HE2.out]; go_wp2_with fail; go_roundw
    case rel => exact ⟨i + 1, by omega, by go_num, hb.trans (hb9.mono hz)⟩
    case measure => simp [intOf]; omega
   ·have hX' := hX.below hb
    have hK' := hK.below hb; have xq1 := hX'.2.1 1 _ rfl; have kq1 := hK'.2.1 1 _ rfl; go_wp2_with fail; go_ret; exact ⟨rfl, hB.trans (hb.mono hw3)⟩
end Go.Proofs.YtbfinjiledfpcaaGreat
end
