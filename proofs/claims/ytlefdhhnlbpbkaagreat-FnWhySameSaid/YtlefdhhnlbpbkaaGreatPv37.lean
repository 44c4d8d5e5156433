/- Parts of the proof: WhZ. -/
import Derived.Test.YtlefdhhnlbpbkaaGreatPv36
section
namespace Go.Proofs.YtlefdhhnlbpbkaaGreat
open Go Go.RowKit
set_option linter.unusedVariables false
set_option linter.unusedSimpArgs false
set_option maxRecDepth 100000
set_option maxHeartbeats 16000000
/-- A row of the call's own whose first cells are kept still reads. -/
theorem Own.rd_kept {w w' : World} {base e k : Nat} {v : Value} {es : List (List CD)} {fp : List Nat} (h : Own w base e k v es fp) (hs : SameOn fp w w') (hz : w.heap.size ≤ w'.heap.size) (hc : ∀ g, v.ownBlock = some g → ∀ j, j < es.length * k → w'.cell? ⟨g, j, none⟩ = w.cell? ⟨g, j, none⟩) :
  ∃ fp', Rd w' (.sl es) v fp' ∧ ∀ b ∈ fp', b ∈ fp ∨ v.ownBlock = some b := by
 obtain ⟨xs, h1, h2, h3, h4⟩ := h
 by_cases hne : es = []
 ·subst hne
  simp [RdVs] at h2
  obtain ⟨rfl, rfl⟩ := h2
  rcases h1.2 with ⟨rfl, _⟩ | ⟨g, cap, cur, rfl, hbg, hg, hnc, hcm, hcs, ht⟩
  ·exact ⟨[], by simp only [Rd]; exact ⟨none, 0, rfl, by simp, by simp [maxLen], by simp⟩, by simp⟩
  ·exact ⟨[], by simp only [Rd]; exact ⟨_, cap, rfl, by simp, hcm, by simp⟩, by simp⟩
 ·have hxl : xs.length = es.length * k := h1.1
  rcases h1.2 with ⟨rfl, h0⟩ | ⟨g, cap, cur, rfl, hbg, hg, hnc, hcm, hcs, ht⟩
  ·exact absurd (List.eq_nil_of_length_eq_zero h0) hne
  ·refine ⟨g :: fp, ?_, fun b hb => (zev.1 hb).elim (fun e => .inr (by rw [e]; rfl)) .inl⟩
   simp only [Rd]
   refine ⟨_, cap, rfl, hnc, hcm, .inr ⟨hne, g, 0, fp, rfl, zep (Array.getElem?_eq_some_iff.1 hg).1 hz, rfl, ?_⟩⟩
   refine RdRows.mk (k := k) (vs := xs) (fun j u hj => ?_) (h2.same _ hs)
   have h9 := h1.cells (g := g) rfl j u hj
   have hjl := (List.getElem?_eq_some_iff.1 hj).1
   have h10 : w.cell? ⟨g, j, none⟩ = some u := by simpa [Addr.add_lit] using h9
   have h11 := (hc g rfl j (by omega)).trans h10
   simpa [Addr.add_lit] using h11
/-- The old reason still reads. -/
theorem old_kept {dlo lo rb : Nat} {w w' : World} {r n : Int} {t : Tm} {ks : List Wy} {a3 a4 : Option Addr} {c3 c4 : Nat} {f : List Nat} (hr : RdVs w (Wy.mk r n t ks).cd [.int .i64 r, .int .i64 n, .string t.name, .slice a3 t.kids.length c3, .slice a4 ks.length c4] f) (h : BendOwn dlo lo w (.mk r n t ks) (.slice a3 t.kids.length c3) (.slice a4 ks.length c4)) (hrb : rb < dlo) (hdl : dlo ≤ lo) (hz : w.heap.size ≤ w'.heap.size)
  (h1 : ∀ b, b < w.heap.size → b ≠ rb → (Value.slice a4 ks.length c4).ownBlock ≠ some b → w'.heap[b]? = w.heap[b]?) (h2 : ∀ g, (Value.slice a4 ks.length c4).ownBlock = some g → ∀ j, j < ks.length * 5 → w'.cell? ⟨g, j, none⟩ = w.cell? ⟨g, j, none⟩) :
  ∃ f', RdVs w' (Wy.mk r n t ks).cd [.int .i64 r, .int .i64 n, .string t.name, .slice a3 t.kids.length c3, .slice a4 ks.length c4] f' ∧ ∀ x ∈ f', dlo ≤ x := by
 obtain ⟨kf, f3, hown, hkf, hrt, hft, hfd⟩ := h
 obtain ⟨_, _, _, _, _, _, _, _, ir, iN, isz, _, _⟩ := Wy.open hr
 have hs : SameOn kf w w' := fun b hb => h1 b (hown.lt b hb) (by have := hkf b hb; omega) (by obtain ⟨_, _, _, _, h9⟩ := hown; exact h9 b hb)
 obtain ⟨g4, h4, h5⟩ := hown.rd_kept hs hz (fun g hg j hj => h2 g hg j (by simpa [Wy.kids] using hj))
 have h6 := hrt.same _ (fun b hb => h1 b (hrt.lt _ b hb) (by have := hft b hb; omega) (fun e => hfd b e hb))
 refine ⟨f3 ++ g4, Wy.close (x := .mk r n t ks) ir iN isz h6 h4, fun x hx => ?_⟩
 rcases zer.1 hx with hx | hx
 ·exact hft x hx
 ·rcases h5 x hx with h7 | h7
  ·exact hkf x h7
  ·have := (hown.block h7).1; omega
theorem Box.at {w w' : World} {vs : List Value} {b : Nat} (h : Box vs b w) (hz : w.heap.size ≤ w'.heap.size) (hb : w'.heap[b]? = w.heap[b]?) : Box vs b w' :=
 ⟨zep h.1 hz, fun j u hu => zl hb (h.2.1 j u hu), fun j => (zc hb).trans (h.2.2 j)⟩
def DrawnWW (e : Ending) (w' : World) : Prop := ∃ (r n : Int) (t : Tm) (ks : List Wy) (r2 n2 : Int) (t2 : Tm) (k2 : List Wy) (a3 : Option Addr) (c3 : Nat) (a4 : Option Addr) (c4 : Nat) (x3 : Option Addr) (y3 : Nat) (x4 : Option Addr) (y4 : Nat) (f f' : List Nat), (Wy.mk r n t ks).fit8 100001 ∧ (Wy.mk r2 n2 t2 k2).fit8 100003 ∧
 e = .returned (.tuple #[.agg #[.int .i64 r, .int .i64 n, .string t.name, .slice a3 t.kids.length c3, .slice a4 ks.length c4], .agg #[.int .i64 r2, .int .i64 n2, .string t2.name, .slice x3 t2.kids.length y3, .slice x4 k2.length y4]]) ∧ RdVs w' (Wy.mk r n t ks).cd [.int .i64 r, .int .i64 n, .string t.name, .slice a3 t.kids.length c3, .slice a4 ks.length c4] f ∧ RdVs w' (Wy.mk r2 n2 t2 k2).cd [.int .i64 r2, .int .i64 n2, .string t2.name, .slice x3 t2.kids.length y3, .slice x4 k2.length y4] f'
theorem zbM (v : Value) (w : World) (hv : Byts w v) :
  Calls Tryz.prog 12 #[v] w fun e w' => DrawnWW e w' ∧ Below w.heap.size w w' := by
 have hA := (Box.new w [.int .i64 0, .int .i64 0, .string ⟨#[]⟩, .slice none 0 0, .slice none 0 0] 32).alloc (.cells #[.int .i64 0, .int .i64 0, .string ⟨#[]⟩, .slice none 0 0, .slice none 0 0] 32)
 have hC := Box.new (w.alloc (.cells #[.int .i64 0, .int .i64 0, .string ⟨#[]⟩, .slice none 0 0, .slice none 0 0] 32)) [.int .i64 0, .int .i64 0, .string ⟨#[]⟩, .slice none 0 0, .slice none 0 0] 32
 rw [World.size_alloc] at hC
 have hbn : Below w.heap.size w ((w.alloc (.cells #[.int .i64 0, .int .i64 0, .string ⟨#[]⟩, .slice none 0 0, .slice none 0 0] 32)).alloc (.cells #[.int .i64 0, .int .i64 0, .string ⟨#[]⟩, .slice none 0 0, .slice none 0 0] 32)) := (zb _ _).alloc (by simp) _
 go_enter Tryz.func12, Tryz.ntmps12
 go_upto_region 1 with fail
 generalize (w.alloc (.cells #[.int .i64 0, .int .i64 0, .string ⟨#[]⟩, .slice none 0 0, .slice none 0 0] 32)).alloc (.cells #[.int .i64 0, .int .i64 0, .string ⟨#[]⟩, .slice none 0 0, .slice none 0 0] 32) = W0 at *
 have hv0 := hv.below hbn
 go_wp2_with fail
 refine (zau v _ (by exact hv0)).mono ?_
 rintro e u1 ⟨rfl, hRd, hb1⟩
 obtain ⟨rb, hrb⟩ : ∃ rb, rb = W0.heap.size := ⟨_, rfl⟩
 rw [← hrb] at hRd ⊢
 have hrw : w.heap.size + 1 < rb := by have := hC.1; omega
 have hv1 := hv0.below hb1
 replace hA := hA.below hb1; replace hC := hC.below hb1
 have hBW := hbn.trans (hb1.mono hbn.size)
 clear hb1 hbn hv0 hrb
 obtain ⟨LO, hLO⟩ : ∃ b, b = u1.heap.size := ⟨_, rfl⟩
 have hrL : rb < LO := by have := hRd.lt; omega
 go_wp2_with fail
 refine (zay v _ (by exact hv1)).mono ?_
 rintro e u2 ⟨⟨s, es, r, n, t, ks, sa, sc, ev, a3, c3, a4, c4, sf, ef, wf, _, _, _, hfit, rfl, _, hre, hrw9, hwl, hbo⟩, hb2⟩
 obtain ⟨evA, evC, rfl, _, _⟩ := zd hre
 rw [← hLO] at hwl hbo
 have HFIT := Lib.hid hfit
 replace hA := hA.below hb2; replace hC := hC.below hb2; replace hRd := hRd.below hb2
 replace hBW := hBW.trans (hb2.mono hBW.size)
 have hLz : LO ≤ u2.heap.size := by rw [hLO]; exact hb2.size
 clear hb2 hv1 hre hfit hLO
 obtain ⟨SBk, hSBk⟩ : ∃ z, z = u2.heap.size := ⟨_, rfl⟩
 obtain ⟨WB, hWB⟩ : ∃ z, z = SBk + 1 := ⟨_, rfl⟩
 have hX := Box.new (u2.alloc (.cells #[.slice sa s.syms.length sc] 25)) [.int .i64 r, .int .i64 n, .string t.name, .slice a3 t.kids.length c3, .slice a4 ks.length c4] 32
 have hbn : Below u2.heap.size u2 ((u2.alloc (.cells #[.slice sa s.syms.length sc] 25)).alloc (.cells #[.int .i64 r, .int .i64 n, .string t.name, .slice a3 t.kids.length c3, .slice a4 ks.length c4] 32)) := (zb _ _).alloc (by simp) _
 rw [World.size_alloc, ← hSBk, ← hWB] at hX
 have hrow : ∀ b, (Value.slice a4 ks.length c4).ownBlock = some b → LO ≤ b ∧ b < WB ∧ b ≠ WB := fun b hb => by
  obtain ⟨_, _, ho, _⟩ := hbo
  have h9 := ho.block hb
  omega
 have hLW : LO ≤ SBk := by omega
 go_upto_region 3 with fail
 try rw [← hSBk]
 try rw [← hWB]
 replace hA := hA.below hbn
 replace hC := hC.below hbn
 replace hrw9 := hrw9.below hbn
 replace hRd := hRd.below hbn
 replace hbo := hbo.below hbn
 replace hBW := hBW.trans (hbn.mono (by have := hBW.size; omega))
 have hWS : SBk < WB := by omega
 clear hbn hSBk hWB
 generalize (u2.alloc (.cells #[.slice sa s.syms.length sc] 25)).alloc (.cells #[.int .i64 r, .int .i64 n, .string t.name, .slice a3 t.kids.length c3, .slice a4 ks.length c4] 32) = u3 at *
 have hbd := zi u3
 replace hA := hA.below hbd
 replace hC := hC.below hbd
 replace hX := hX.below hbd
 replace hrw9 := hrw9.below hbd
 replace hRd := hRd.below hbd
 replace hbo := hbo.below hbd
 replace hBW := hBW.trans (hbd.mono (by have := hBW.size; omega))
 have hdz : u3.drew.heap.size = u3.heap.size := rfl
 clear hbd
 refine Ever.start (F := (fun U : World => U.cell? ⟨WB, 0, none⟩ = some (.int .i64 r) ∧ U.cell? ⟨WB, 1, none⟩ = some (.int .i64 n) ∧ U.cell? ⟨WB, 2, none⟩ = some (.string t.name) ∧ U.cell? ⟨WB, 3, none⟩ = some (.slice a3 t.kids.length c3) ∧ U.cell? ⟨WB, 4, none⟩ = some (.slice a4 ks.length c4))) (by kernel_rfl) ?_
 generalize u3.drew = y0 at *
 have hF9 : (fun U : World => U.cell? ⟨WB, 0, none⟩ = some (.int .i64 r) ∧ U.cell? ⟨WB, 1, none⟩ = some (.int .i64 n) ∧ U.cell? ⟨WB, 2, none⟩ = some (.string t.name) ∧ U.cell? ⟨WB, 3, none⟩ = some (.slice a3 t.kids.length c3) ∧ U.cell? ⟨WB, 4, none⟩ = some (.slice a4 ks.length c4)) _ := ⟨hX.2.1 0 _ rfl, hX.2.1 1 _ rfl, hX.2.1 2 _ rfl, hX.2.1 3 _ rfl, hX.2.1 4 _ rfl⟩
 refine Ever.take (i := 0) (v := (.agg #[.int .i64 r, .int .i64 n, .string t.name, .slice a3 t.kids.length c3, .slice a4 ks.length c4])) rfl (by kernel_rfl) (by kernel_rfl) (by kernel_rfl) (fun _ _ _ h => h) (Or.inl ⟨by rfl, fun U hU => ?_⟩) hF9 ?_
 ·obtain ⟨u0F, u1F, u2F, u3F, u4F⟩ := hU
  go_simp
 try simp only [Act.put, zej, zek, zel]
 refine Ever.take (i := 1) (v := (.pointer (some ⟨rb, 0, none⟩))) rfl (by kernel_rfl) (by kernel_rfl) (by kernel_rfl) (fun _ _ _ h => h) (Or.inl ⟨by rfl, fun U hU => ?_⟩) hF9 ?_
 ·obtain ⟨u0F, u1F, u2F, u3F, u4F⟩ := hU
  go_simp
 try simp only [Act.put, zej, zek, zel]
 refine Ever.take (i := 2) (v := (.pointer (some ⟨rb, 0, none⟩))) rfl (by kernel_rfl) (by kernel_rfl) (by kernel_rfl) (fun _ _ _ h => h) (Or.inl ⟨by rfl, fun U hU => ?_⟩) hF9 ?_
 ·obtain ⟨u0F, u1F, u2F, u3F, u4F⟩ := hU
  go_simp
 try simp only [Act.put, zej, zek, zel]
 refine Ever.take (i := 3) (v := (.agg #[.int .i64 r, .int .i64 n, .string t.name, .slice a3 t.kids.length c3, .slice a4 ks.length c4])) rfl (by kernel_rfl) (by kernel_rfl) (by kernel_rfl) (fun _ _ _ h => h) (Or.inl ⟨by rfl, fun U hU => ?_⟩) hF9 ?_
 ·obtain ⟨u0F, u1F, u2F, u3F, u4F⟩ := hU
  go_simp
 try simp only [Act.put, zej, zek, zel]
 refine Ever.one (i := 4) (by kernel_rfl) rfl (fun J9 hK => ?_)
 have hzX := hX.1
 have hzA := hA.1
 go_simp
 go_wp2_with (go_at_call 24; refine (zbd (ks.length * 5) r n t ks 100001 (by omega) (Nat.le_refl _) HFIT.out a3 c3 a4 c4 wf rb 0 LO LO _ (by omega) hrw9 hwl hbo (by omega) (Nat.le_refl _) (by omega) hRd _ (Lib.hid rfl)).mono ?_; rintro e y1 ⟨⟨r1, n1, t1, k1, b3, d3, b4, d4, f1, hfit1, rfl, hrw1, hf1, hbo1, hlow1, hkp1⟩, hR1⟩)
 have HFIT1 := Lib.hid hfit1
 have HKP1 := Lib.hid hkp1
 have hA1 := hA.at hlow1.size (hlow1.block _ hA.1 (by omega) (fun e => by have := hrow _ e; omega))
 have hC1 := hC.at hlow1.size (hlow1.block _ hC.1 (by omega) (fun e => by have := hrow _ e; omega))
 have hX1 := hX.at hlow1.size (hlow1.block _ hX.1 (by omega) (fun e => by have := hrow _ e; omega))
 have hBW1 := hBW.trans (hlow1.toBelow (B := w.heap.size) (by omega) (by omega) (fun b hb => by have := hrow b hb; omega))
 have hzy := hlow1.size
 clear hfit1 hkp1
 replace hF9 : (fun U : World => U.cell? ⟨WB, 0, none⟩ = some (.int .i64 r) ∧ U.cell? ⟨WB, 1, none⟩ = some (.int .i64 n) ∧ U.cell? ⟨WB, 2, none⟩ = some (.string t.name) ∧ U.cell? ⟨WB, 3, none⟩ = some (.slice a3 t.kids.length c3) ∧ U.cell? ⟨WB, 4, none⟩ = some (.slice a4 ks.length c4)) _ := ⟨hX1.2.1 0 _ rfl, hX1.2.1 1 _ rfl, hX1.2.1 2 _ rfl, hX1.2.1 3 _ rfl, hX1.2.1 4 _ rfl⟩
 refine hK.out _ _ hF9 ?_
 clear hK
 try simp only [Act.put, zej, zek, zel]
 refine Ever.one (i := 5) (by kernel_rfl) rfl (fun J9 hK => ?_)
 go_simp
 go_wp2_with (go_at_call 24; refine (zbd (k1.length * 5) r1 n1 t1 k1 (100001 + 1) (by omega) (Nat.le_refl _) HFIT1.out b3 d3 b4 d4 f1 rb (0 + 3) LO LO _ (by omega) hrw1 hf1 hbo1 (by omega) (Nat.le_refl _) (by omega) hR1 _ (Lib.hid rfl)).mono ?_; rintro e y2 ⟨⟨r2, n2, t2, k2, x3, y3, x4, y4, f2, hfit2, rfl, hrw2, hf2, _, hlow2, _⟩, _⟩)
 have HFIT2 := Lib.hid hfit2
 have hrow2 : ∀ b, (Value.slice b4 k1.length d4).ownBlock = some b → LO ≤ b ∧ b ≠ WB := fun b hb => by
  refine ⟨by obtain ⟨_, _, ho, _⟩ := hbo1; exact (ho.block hb).1, ?_⟩
  rcases HKP1.out b hb with h | h
  ·omega
  ·exact (hrow b h.1).2.2
 have hA2 := hA1.at hlow2.size (hlow2.block _ hA1.1 (by omega) (fun e => by have := hrow2 _ e; omega))
 have hC2 := hC1.at hlow2.size (hlow2.block _ hC1.1 (by omega) (fun e => by have := hrow2 _ e; omega))
 have hX2 := hX1.at hlow2.size (hlow2.block _ hX1.1 (by omega) (fun e => (hrow2 _ e).2 rfl))
 have hBW2 := hBW1.trans (hlow2.toBelow (B := w.heap.size) (by omega) (by omega) (fun b hb => by have := hrow2 b hb; omega))
 have hold : ∃ f', RdVs y2 (Wy.mk r n t ks).cd [.int .i64 r, .int .i64 n, .string t.name, .slice a3 t.kids.length c3, .slice a4 ks.length c4] f' ∧ ∀ x ∈ f', LO ≤ x := by
  refine old_kept hrw9 hbo (rb := rb) (by omega) (Nat.le_refl _) (Nat.le_trans hlow1.size hlow2.size) (fun b h1 h2 h3 => ?_) (fun g hg j hj => ?_)
  ·refine (hlow2.block b (by omega) h2 (fun e => ?_)).trans (hlow1.block b h1 h2 h3)
   rcases HKP1.out b e with h | h
   ·omega
   ·exact h3 h.1
  ·have hgl := hrow g hg
   have hg1 := hlow1.kept g hg (by omega) (by omega) j hj
   refine Eq.trans ?_ hg1
   by_cases hR2 : (Value.slice b4 k1.length d4).ownBlock = some g
   ·refine hlow2.kept g hR2 (by omega) (by omega) j ?_
    rcases HKP1.out g hR2 with h | h
    ·omega
    ·have := h.2; omega
   ·exact zcA (hlow2.block g (by omega) (by omega) hR2)
 obtain ⟨fo, hro, hfo⟩ := hold
 have hzy2 := hlow2.size
 clear hfit2 hA hC hX hA1 hC1 hX1 hBW hBW1 hlow1 hlow2 HKP1 hbo hbo1 hrw9 hrw1 hR1 hRd
 replace hF9 : (fun U : World => U.cell? ⟨WB, 0, none⟩ = some (.int .i64 r) ∧ U.cell? ⟨WB, 1, none⟩ = some (.int .i64 n) ∧ U.cell? ⟨WB, 2, none⟩ = some (.string t.name) ∧ U.cell? ⟨WB, 3, none⟩ = some (.slice a3 t.kids.length c3) ∧ U.cell? ⟨WB, 4, none⟩ = some (.slice a4 ks.length c4)) _ := ⟨hX2.2.1 0 _ rfl, hX2.2.1 1 _ rfl, hX2.2.1 2 _ rfl, hX2.2.1 3 _ rfl, hX2.2.1 4 _ rfl⟩
 refine hK.out _ _ hF9 ?_
 clear hK
 try simp only [Act.put, zej, zek, zel]
 refine Ever.one (i := 6) (by kernel_rfl) rfl (fun J9 hK => ?_)
 have p0 := hA2.2.1 0 _ rfl; have pz0 := hA2.2.2 0
 have p1 := hA2.2.1 1 _ rfl; have pz1 := hA2.2.2 1
 have p2 := hA2.2.1 2 _ rfl; have pz2 := hA2.2.2 2
 have p3 := hA2.2.1 3 _ rfl; have pz3 := hA2.2.2 3
 have p4 := hA2.2.1 4 _ rfl; have pz4 := hA2.2.2 4
 go_simp
 have gA := hA2.puts [.int .i64 r, .int .i64 n, .string t.name, .slice a3 t.kids.length c3, .slice a4 ks.length c4] rfl
 have gC := hC2.sets_other (b := w.heap.size) (by omega) (ze 0 [.int .i64 r, .int .i64 n, .string t.name, .slice a3 t.kids.length c3, .slice a4 ks.length c4])
 have gX := hX2.sets_other (b := w.heap.size) (by omega) (ze 0 [.int .i64 r, .int .i64 n, .string t.name, .slice a3 t.kids.length c3, .slice a4 ks.length c4])
 have hB3 := zr (b := w.heap.size) (Nat.le_refl _) (ze 0 [.int .i64 r, .int .i64 n, .string t.name, .slice a3 t.kids.length c3, .slice a4 ks.length c4]) hBW2
 have hK1 := (Same2.refl w.heap.size (w.heap.size + 1) y2).sets (b := w.heap.size) (.inl rfl) (ze 0 [.int .i64 r, .int .i64 n, .string t.name, .slice a3 t.kids.length c3, .slice a4 ks.length c4])
 simp only [zA, ze] at gA gC gX hB3 hK1
 clear hA2 hC2 hX2 hBW2 p0 pz0 p1 pz1 p2 pz2 p3 pz3 p4 pz4
 have hX3 := gX
 clear gX
 replace hF9 : (fun U : World => U.cell? ⟨WB, 0, none⟩ = some (.int .i64 r) ∧ U.cell? ⟨WB, 1, none⟩ = some (.int .i64 n) ∧ U.cell? ⟨WB, 2, none⟩ = some (.string t.name) ∧ U.cell? ⟨WB, 3, none⟩ = some (.slice a3 t.kids.length c3) ∧ U.cell? ⟨WB, 4, none⟩ = some (.slice a4 ks.length c4)) _ := ⟨hX3.2.1 0 _ rfl, hX3.2.1 1 _ rfl, hX3.2.1 2 _ rfl, hX3.2.1 3 _ rfl, hX3.2.1 4 _ rfl⟩
 refine hK.out _ _ hF9 ?_
 clear hK
 try simp only [Act.put, zej, zek, zel]
 refine Ever.one (i := 7) (by kernel_rfl) rfl (fun J9 hK => ?_)
 have p0 := gC.2.1 0 _ rfl; have pz0 := gC.2.2 0
 have p1 := gC.2.1 1 _ rfl; have pz1 := gC.2.2 1
 have p2 := gC.2.1 2 _ rfl; have pz2 := gC.2.2 2
 have p3 := gC.2.1 3 _ rfl; have pz3 := gC.2.2 3
 have p4 := gC.2.1 4 _ rfl; have pz4 := gC.2.2 4
 go_simp
 generalize ((((y2.setCell ⟨w.heap.size, 0, none⟩ (.int .i64 r)).setCell ⟨w.heap.size, 1, none⟩ (.int .i64 n)).setCell ⟨w.heap.size, 2, none⟩ (.string t.name)).setCell ⟨w.heap.size, 3, none⟩ (.slice a3 t.kids.length c3)).setCell ⟨w.heap.size, 4, none⟩ (.slice a4 ks.length c4) = y3w at *
 have gC2 := gC.puts [.int .i64 r2, .int .i64 n2, .string t2.name, .slice x3 t2.kids.length y3, .slice x4 k2.length y4] rfl
 have gA2 := gA.sets_other (b := w.heap.size + 1) (by omega) (ze 0 [.int .i64 r2, .int .i64 n2, .string t2.name, .slice x3 t2.kids.length y3, .slice x4 k2.length y4])
 have gX2 := hX3.sets_other (b := w.heap.size + 1) (by omega) (ze 0 [.int .i64 r2, .int .i64 n2, .string t2.name, .slice x3 t2.kids.length y3, .slice x4 k2.length y4])
 have hB4 := zr (b := w.heap.size + 1) (by omega) (ze 0 [.int .i64 r2, .int .i64 n2, .string t2.name, .slice x3 t2.kids.length y3, .slice x4 k2.length y4]) hB3
 have hK2 := hK1.sets (b := w.heap.size + 1) (.inr rfl) (ze 0 [.int .i64 r2, .int .i64 n2, .string t2.name, .slice x3 t2.kids.length y3, .slice x4 k2.length y4])
 simp only [zA, ze] at gC2 gA2 gX2 hB4 hK2
 clear gA gC hX3 hB3 hK1 p0 pz0 p1 pz1 p2 pz2 p3 pz3 p4 pz4
 replace hF9 : (fun U : World => U.cell? ⟨WB, 0, none⟩ = some (.int .i64 r) ∧ U.cell? ⟨WB, 1, none⟩ = some (.int .i64 n) ∧ U.cell? ⟨WB, 2, none⟩ = some (.string t.name) ∧ U.cell? ⟨WB, 3, none⟩ = some (.slice a3 t.kids.length c3) ∧ U.cell? ⟨WB, 4, none⟩ = some (.slice a4 ks.length c4)) _ := ⟨gX2.2.1 0 _ rfl, gX2.2.1 1 _ rfl, gX2.2.1 2 _ rfl, gX2.2.1 3 _ rfl, gX2.2.1 4 _ rfl⟩
 refine hK.out _ _ hF9 ?_
 clear hK
 try simp only [Act.put, zej, zek, zel]
 refine Ever.done (by kernel_rfl) ?_ _
 have q0 := gA2.2.1 0 _ rfl; have e0 := gC2.2.1 0 _ rfl
 have q1 := gA2.2.1 1 _ rfl; have e1 := gC2.2.1 1 _ rfl
 have q2 := gA2.2.1 2 _ rfl; have e2 := gC2.2.1 2 _ rfl
 have q3 := gA2.2.1 3 _ rfl; have e3 := gC2.2.1 3 _ rfl
 have q4 := gA2.2.1 4 _ rfl; have e4 := gC2.2.1 4 _ rfl
 have hro4 := hro.same2 hK2 (fun x hx => by have := hfo x hx; omega)
 have hrw4 := hrw2.same2 hK2 (fun x hx => by have := hf2 x hx; omega)
 clear gA2 gC2 gX2 hF9 hK2 hro hrw2
 go_wp2_with fail
 refine bodyPost_ret (v := .tuple #[.agg #[.int .i64 r, .int .i64 n, .string t.name, .slice a3 t.kids.length c3, .slice a4 ks.length c4], .agg #[.int .i64 r2, .int .i64 n2, .string t2.name, .slice x3 t2.kids.length y3, .slice x4 k2.length y4]]) (by simp [results, Tryz.results12, go_sem, q0, q1, q2, q3, q4, e0, e1, e2, e3, e4]) rfl ?_
 exact ⟨⟨r, n, t, ks, r2, n2, t2, k2, _, _, _, _, _, _, _, _, _, _, HFIT.out, HFIT2.out, rfl, hro4, hrw4⟩, hB4⟩
end Go.Proofs.YtlefdhhnlbpbkaaGreat
end
