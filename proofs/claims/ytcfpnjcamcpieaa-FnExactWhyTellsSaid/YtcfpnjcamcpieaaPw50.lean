/- Parts of the proof: LawWhyTells. -/
import Derived.Deep.RegionHeld3
import Derived.Deep.CutRange
import Derived.Test.YtcfpnjcamcpieaaPw42
import Derived.Test.YtcfpnjcamcpieaaPw47
import Derived.Test.YtcfpnjcamcpieaaPw48
import Derived.Test.YtcfpnjcamcpieaaPw11
import Derived.Test.YtcfpnjcamcpieaaPw49
section
namespace Go.Proofs.Ytcfpnjcamcpieaa
open Go Go.RowKit
set_option linter.unusedVariables false
set_option linter.unusedSimpArgs false
set_option maxRecDepth 100000
set_option maxHeartbeats 16000000
theorem zK {b c : Nat} (h : c ≠ b) : ∀ (ups : List (Nat × Value)) (w : World), (zF b ups w).heap[c]? = w.heap[c]?
 | [], _ => rfl
 | u :: r, w => (zK h r _).trans (Below.heap_setCell _ _ _ _ h)
theorem zn {w : World} {B b : Nat} (hb : B ≤ b) : ∀ (ups : List (Nat × Value)) {u : World}, Below B w u → Below B w (zF b ups u)
 | [], _, h => h
 | p :: r, _, h => zn hb r (h.setCell hb _)
theorem zl {w w' : World} {b : Nat} {cs : Array Value} (h : ∀ j, w.cell? ⟨b, j, none⟩ = cs[j]?) (hb : w'.heap[b]? = w.heap[b]?) : ∀ j, w'.cell? ⟨b, j, none⟩ = cs[j]? := fun j => (World.cell?_of_block hb).trans (h j)
theorem zL {es : List Eqn} (h1 : es.length + wtR (es.map Eqn.cd) ≤ 1048576) : Tm.sizes (zo es) ≤ 1000000000 := by
 have h3 := zcB es
 unfold zo
 omega
theorem whyT_lit {s : Sg} {es : List Eqn} {x : Wy} {q : Eqn} (h : whyT s es x = some q) : q.lit := by
 unfold whyT at h
 split at h
 ·rename_i h1
  split at h
  ·cases h
  ·rename_i p hp
   split at h
   ·obtain rfl := Option.some.inj h
    exact Wy.tells_lit (zcr h1) 400 x _ hp
   ·cases h
 ·cases h
theorem whyT_cnt (s : Sg) (es : List Eqn) (x : Wy) : cntT ((whyT s es x).getD Eqn.zero).cd ≤ 100000000000000 := by
 cases h : whyT s es x with
 | none => simp [Eqn.zero, Eqn.cd, Tm.cd, cntT, cntR]
 | some q =>
  have h1 := whyT_lit h
  have h2 : cntT q.cd = cntR (q.a.kids.map Tm.cd) + cntR (q.b.kids.map Tm.cd) := by
   unfold Eqn.cd; rw [Tm.cd_eq, Tm.cd_eq]; simp [cntT]
  simp only [Option.getD_some, h2]
  rw [Tm.cntR_cds, Tm.cntR_cds]
  have h3 := h1.1
  have h4 := h1.2
  rw [Tm.size_eq] at h3 h4
  omega
theorem zbr (x0 : Sg) (v0 : List Value) (f0 : List Nat) (x1 : List Eqn) (v1 : Value) (f1 : List Nat) (x2 : Wy) (v2 : List Value) (f2 : List Nat) (w : World) (hv0 : RdVs w x0.cd v0 f0) (hv1 : Rd w (.sl (x1.map Eqn.cd)) v1 f1) (hv2 : RdVs w x2.cd v2 f2) :
  Calls Try.prog 3 #[.agg v0.toArray, v1, .agg v2.toArray] w fun e w' => e = .returned (.bool true) ∧ Below w.heap.size w w' := by
 obtain ⟨a0A0, c0A0, f0A0, rfl, _, _⟩ := Sg.open hv0
 obtain ⟨p1, q1, rfl, hc1, hd1⟩ := ze hv1
 obtain ⟨a3A2, c3A2, f3A2, a4A2, c4A2, f4A2, rfl, _, _, _, _, _, _⟩ := Wy.open hv2
 go_enter Try.func3, Try.ntmps3
 go_wp2_with fail
 refine (szSig_x x0 _ _ _ _ (by omega) (by omega) (by exact hv0.below (((Below.refl _ _).alloc (Nat.le_refl _) _).alloc (by simp) _))).mono ?_
 rintro e w1 ⟨⟨r0, rfl, hr0⟩, hb⟩
 obtain ⟨X0, X2, hz, hB⟩ := box2 (w := w) (wr := w1) (cs := #[.slice a0A0 x0.syms.length c0A0]) (ds := #[.int .i64 x2.rule, .int .i64 x2.n, .string x2.t.name, .slice a3A2 x2.t.kids.length c3A2, .slice a4A2 x2.kids.length c4A2]) (T := 24) (U := 31) (zm hb (by simp))
 have hz0 := hB.size
 have hlX0 : w.heap.size < w1.heap.size := by omega
 have hlX2 : w.heap.size + 1 < w1.heap.size := by omega
 clear hb
 rcases hr0 with ⟨hs0, rfl⟩ | ⟨hs0, rfl⟩
 rotate_left
 ·go_wp2_with fail
  go_ret
  exact ⟨rfl, hB⟩
 go_wp2_with fail
 refine (szEqS_x x1 _ _ _ _ (by omega) (by omega) (by exact hv1.below hB)).mono ?_
 rintro e w2 ⟨⟨r1, rfl, hr1⟩, hb⟩
 replace X0 := za X0 hlX0 hb
 replace X2 := za X2 hlX2 hb
 replace hB := hB.trans (hb.mono hz0)
 have hzn := hb.size
 replace hlX0 := zc4 hlX0 hzn
 replace hlX2 := zc4 hlX2 hzn
 replace hz0 := Nat.le_trans hz0 hzn
 clear hb hzn
 rcases hr1 with ⟨hs1, rfl⟩ | ⟨hs1, rfl⟩
 rotate_left
 ·go_wp2_with fail
  go_ret
  exact ⟨rfl, hB⟩
 go_wp2_with fail
 refine (szWhy_x x2 _ _ _ _ (by omega) (by omega) (by exact hv2.below hB)).mono ?_
 rintro e w3 ⟨⟨r2, rfl, hr2⟩, hb⟩
 replace X0 := za X0 hlX0 hb
 replace X2 := za X2 hlX2 hb
 replace hB := hB.trans (hb.mono hz0)
 have hzn := hb.size
 replace hlX0 := zc4 hlX0 hzn
 replace hlX2 := zc4 hlX2 hzn
 replace hz0 := Nat.le_trans hz0 hzn
 clear hb hzn
 rcases hr2 with ⟨hs2, rfl⟩ | ⟨hs2, rfl⟩
 rotate_left
 ·go_wp2_with fail
  go_ret
  exact ⟨rfl, hB⟩
 go_wp2_with fail
 have hbig0 : wtV x0.cd ≤ 1048576 := by omega
 have hbig1 : (x1.length + wtR (x1.map Eqn.cd)) ≤ 1048576 := by omega
 have hbig2 : wtV x2.cd ≤ 1048576 := by omega
 clear hs0 hs1 hs2
 have hrb : cntT ((whyT x0 x1 x2).getD Eqn.zero).cd ≤ 100000000000000 := (whyT_cnt x0 x1 x2)
 have hbb : (((whyT x0 x1 x2).isSome) != ((whyT x0 x1 x2).isSome)) = false := by simp
 have o_X0_S := hlX0
 have o_X2_S := hlX2
 have base_S := hz0
 go_upto_region 11 with fail
 go_cut [8, 9] from 35 to 45 (fun pv bv wx => ∃ (EB : Nat) (a1S : Option Addr) (c1S : Nat) (a3S : Option Addr) (c3S : Nat) (f_S : List Nat), pv = .pointer (some ⟨EB, 0, none⟩) ∧ bv = .bool ((whyT x0 x1 x2).isSome) ∧ (∀ j, wx.cell? ⟨EB, j, none⟩ = (#[.string ((whyT x0 x1 x2).getD Eqn.zero).a.name, .slice a1S ((whyT x0 x1 x2).getD Eqn.zero).a.kids.length c1S, .string ((whyT x0 x1 x2).getD Eqn.zero).b.name, .slice a3S ((whyT x0 x1 x2).getD Eqn.zero).b.kids.length c3S] : Array Value)[j]?) ∧ EB < wx.heap.size ∧ RdVs wx ((whyT x0 x1 x2).getD Eqn.zero).cd [.string ((whyT x0 x1 x2).getD Eqn.zero).a.name, .slice a1S ((whyT x0 x1 x2).getD Eqn.zero).a.kids.length c1S, .string ((whyT x0 x1 x2).getD Eqn.zero).b.name, .slice a3S ((whyT x0 x1 x2).getD Eqn.zero).b.kids.length c3S] f_S ∧ Fresh w3.heap.size wx f_S ∧ Below w3.heap.size w3 wx)
 case first =>
  refine Ever.start (F := (fun U : World => U.cell? ⟨w.heap.size, 0, none⟩ = some (.slice a0A0 x0.syms.length c0A0) ∧ U.cell? ⟨w.heap.size + 1, 0, none⟩ = some (.int .i64 x2.rule) ∧ U.cell? ⟨w.heap.size + 1, 1, none⟩ = some (.int .i64 x2.n) ∧ U.cell? ⟨w.heap.size + 1, 2, none⟩ = some (.string x2.t.name) ∧ U.cell? ⟨w.heap.size + 1, 3, none⟩ = some (.slice a3A2 x2.t.kids.length c3A2) ∧ U.cell? ⟨w.heap.size + 1, 4, none⟩ = some (.slice a4A2 x2.kids.length c4A2))) (by kernel_rfl) ?_
  have hbd := zr w3
  have Y0 := za X0 hlX0 hbd
  have hy0 := zc4 hlX0 hbd.size
  have Y2 := za X2 hlX2 hbd
  have hy2 := zc4 hlX2 hbd.size
  have hW := hbd
  have hY := hB.trans (hbd.mono hB.size)
  clear hbd
  generalize w3.drew = yS0 at *
  have hF : (fun U : World => U.cell? ⟨w.heap.size, 0, none⟩ = some (.slice a0A0 x0.syms.length c0A0) ∧ U.cell? ⟨w.heap.size + 1, 0, none⟩ = some (.int .i64 x2.rule) ∧ U.cell? ⟨w.heap.size + 1, 1, none⟩ = some (.int .i64 x2.n) ∧ U.cell? ⟨w.heap.size + 1, 2, none⟩ = some (.string x2.t.name) ∧ U.cell? ⟨w.heap.size + 1, 3, none⟩ = some (.slice a3A2 x2.t.kids.length c3A2) ∧ U.cell? ⟨w.heap.size + 1, 4, none⟩ = some (.slice a4A2 x2.kids.length c4A2)) _ := ⟨(by have h := Y0 0; simp only [zc3, zc1, zc2] at h; exact h), (by have h := Y2 0; simp only [zc3, zc1, zc2] at h; exact h), (by have h := Y2 1; simp only [zc3, zc1, zc2] at h; exact h), (by have h := Y2 2; simp only [zc3, zc1, zc2] at h; exact h), (by have h := Y2 3; simp only [zc3, zc1, zc2] at h; exact h), (by have h := Y2 4; simp only [zc3, zc1, zc2] at h; exact h)⟩
  refine Ever.take (i := 0) (v := (.agg #[.slice a0A0 x0.syms.length c0A0])) rfl (by kernel_rfl) (by kernel_rfl) (by kernel_rfl) (fun _ _ _ h => h) (Or.inl ⟨by rfl, fun U hU => ?_⟩) hF ?_
  ·obtain ⟨l0_0F, l2_0F, l2_1F, l2_2F, l2_3F, l2_4F⟩ := hU
   go_simp
  try simp only [Act.put, zcY, zcZ, zc0]
  refine Ever.take (i := 2) (v := (.slice p1 x1.length q1)) rfl (by kernel_rfl) (by kernel_rfl) (by kernel_rfl) (fun _ _ _ h => h) (Or.inl ⟨by rfl, fun U hU => ?_⟩) hF ?_
  ·obtain ⟨l0_0F, l2_0F, l2_1F, l2_2F, l2_3F, l2_4F⟩ := hU
   go_simp
  try simp only [Act.put, zcY, zcZ, zc0]
  refine Ever.take (i := 4) (v := (.agg #[.int .i64 x2.rule, .int .i64 x2.n, .string x2.t.name, .slice a3A2 x2.t.kids.length c3A2, .slice a4A2 x2.kids.length c4A2])) rfl (by kernel_rfl) (by kernel_rfl) (by kernel_rfl) (fun _ _ _ h => h) (Or.inl ⟨by rfl, fun U hU => ?_⟩) hF ?_
  ·obtain ⟨l0_0F, l2_0F, l2_1F, l2_2F, l2_3F, l2_4F⟩ := hU
   go_simp
  try simp only [Act.put, zcY, zcZ, zc0]
  refine Ever.two (i := 1) (j := 10) (by kernel_rfl) rfl rfl (fun J9 hK => ?_) (fun J9 hK => ?_)
  ·go_simp
   go_wp2_with (go_at_call 8; refine (za4 x0 _ _ _ hbig0 (by exact hv0.below hY)).mono ?_; rintro e yS1 ⟨s0, sf0, rfl, sr0, sg0, hb⟩)
   replace Y0 := za Y0 hy0 hb
   replace hy0 := zc4 hy0 hb.size
   replace Y2 := za Y2 hy2 hb
   replace hy2 := zc4 hy2 hb.size
   replace hW := hW.trans (hb.mono hW.size)
   replace hY := hY.trans (hb.mono hY.size)
   clear hb
   replace hF : (fun U : World => U.cell? ⟨w.heap.size, 0, none⟩ = some (.slice a0A0 x0.syms.length c0A0) ∧ U.cell? ⟨w.heap.size + 1, 0, none⟩ = some (.int .i64 x2.rule) ∧ U.cell? ⟨w.heap.size + 1, 1, none⟩ = some (.int .i64 x2.n) ∧ U.cell? ⟨w.heap.size + 1, 2, none⟩ = some (.string x2.t.name) ∧ U.cell? ⟨w.heap.size + 1, 3, none⟩ = some (.slice a3A2 x2.t.kids.length c3A2) ∧ U.cell? ⟨w.heap.size + 1, 4, none⟩ = some (.slice a4A2 x2.kids.length c4A2)) _ := ⟨(by have h := Y0 0; simp only [zc3, zc1, zc2] at h; exact h), (by have h := Y2 0; simp only [zc3, zc1, zc2] at h; exact h), (by have h := Y2 1; simp only [zc3, zc1, zc2] at h; exact h), (by have h := Y2 2; simp only [zc3, zc1, zc2] at h; exact h), (by have h := Y2 3; simp only [zc3, zc1, zc2] at h; exact h), (by have h := Y2 4; simp only [zc3, zc1, zc2] at h; exact h)⟩
   refine hK.out _ _ hF ?_
   clear hK
   try simp only [Act.put, zcY, zcZ, zc0]
   refine Ever.two (i := 3) (j := 10) (by kernel_rfl) rfl rfl (fun J9 hK => ?_) (fun J9 hK => ?_)
   ·go_simp
    go_wp2_with (go_at_call 9; refine (zaA x1 _ _ _ hbig1 (by exact hv1.below hY)).mono ?_; rintro e yS3 ⟨s1, sf1, rfl, sr1, sg1, hb⟩)
    replace Y0 := za Y0 hy0 hb
    replace hy0 := zc4 hy0 hb.size
    replace Y2 := za Y2 hy2 hb
    replace hy2 := zc4 hy2 hb.size
    replace sr0 := sr0.below hb
    replace hW := hW.trans (hb.mono hW.size)
    replace hY := hY.trans (hb.mono hY.size)
    clear hb
    replace hF : (fun U : World => U.cell? ⟨w.heap.size, 0, none⟩ = some (.slice a0A0 x0.syms.length c0A0) ∧ U.cell? ⟨w.heap.size + 1, 0, none⟩ = some (.int .i64 x2.rule) ∧ U.cell? ⟨w.heap.size + 1, 1, none⟩ = some (.int .i64 x2.n) ∧ U.cell? ⟨w.heap.size + 1, 2, none⟩ = some (.string x2.t.name) ∧ U.cell? ⟨w.heap.size + 1, 3, none⟩ = some (.slice a3A2 x2.t.kids.length c3A2) ∧ U.cell? ⟨w.heap.size + 1, 4, none⟩ = some (.slice a4A2 x2.kids.length c4A2)) _ := ⟨(by have h := Y0 0; simp only [zc3, zc1, zc2] at h; exact h), (by have h := Y2 0; simp only [zc3, zc1, zc2] at h; exact h), (by have h := Y2 1; simp only [zc3, zc1, zc2] at h; exact h), (by have h := Y2 2; simp only [zc3, zc1, zc2] at h; exact h), (by have h := Y2 3; simp only [zc3, zc1, zc2] at h; exact h), (by have h := Y2 4; simp only [zc3, zc1, zc2] at h; exact h)⟩
    refine hK.out _ _ hF ?_
    clear hK
    try simp only [Act.put, zcY, zcZ, zc0]
    refine Ever.two (i := 5) (j := 10) (by kernel_rfl) rfl rfl (fun J9 hK => ?_) (fun J9 hK => ?_)
    ·go_simp
     go_wp2_with (go_at_call 10; refine (zap x2 _ _ _ hbig2 (by exact hv2.below hY)).mono ?_; rintro e yS5 ⟨s2, sf2, rfl, sr2, sg2, hb⟩)
     replace Y0 := za Y0 hy0 hb
     replace hy0 := zc4 hy0 hb.size
     replace Y2 := za Y2 hy2 hb
     replace hy2 := zc4 hy2 hb.size
     replace sr0 := sr0.below hb
     replace sr1 := sr1.below hb
     replace hW := hW.trans (hb.mono hW.size)
     replace hY := hY.trans (hb.mono hY.size)
     clear hb
     replace hF : (fun U : World => U.cell? ⟨w.heap.size, 0, none⟩ = some (.slice a0A0 x0.syms.length c0A0) ∧ U.cell? ⟨w.heap.size + 1, 0, none⟩ = some (.int .i64 x2.rule) ∧ U.cell? ⟨w.heap.size + 1, 1, none⟩ = some (.int .i64 x2.n) ∧ U.cell? ⟨w.heap.size + 1, 2, none⟩ = some (.string x2.t.name) ∧ U.cell? ⟨w.heap.size + 1, 3, none⟩ = some (.slice a3A2 x2.t.kids.length c3A2) ∧ U.cell? ⟨w.heap.size + 1, 4, none⟩ = some (.slice a4A2 x2.kids.length c4A2)) _ := ⟨(by have h := Y0 0; simp only [zc3, zc1, zc2] at h; exact h), (by have h := Y2 0; simp only [zc3, zc1, zc2] at h; exact h), (by have h := Y2 1; simp only [zc3, zc1, zc2] at h; exact h), (by have h := Y2 2; simp only [zc3, zc1, zc2] at h; exact h), (by have h := Y2 3; simp only [zc3, zc1, zc2] at h; exact h), (by have h := Y2 4; simp only [zc3, zc1, zc2] at h; exact h)⟩
     refine hK.out _ _ hF ?_
     clear hK
     try simp only [Act.put, zcY, zcZ, zc0]
     refine Ever.two (i := 6) (j := 10) (by kernel_rfl) rfl rfl (fun J9 hK => ?_) (fun J9 hK => ?_)
     ·go_simp
      go_wp2_with (go_at_call 7; refine (zX x0 x1 x2 _ _ _ _ _ _ _ (zL hbig1) (by omega) (Wy.thin_of _ x2 (Nat.le_refl _) hbig2) (by exact sr0) (by exact sr1) (by exact sr2)).mono ?_; rintro e yS7 ⟨vS, f_S, rfl, r_S, fr_S, hb⟩)
      have r_S' := r_S
      obtain ⟨a1S, c1S, f1S, a3S, c3S, f3S, rfl, _, _, _, _, _⟩ := Eqn.open r_S'
      replace fr_S := fr_S.mono (lo' := w3.heap.size) (by have := hW.size; omega)
      replace Y0 := za Y0 hy0 hb
      replace hy0 := zc4 hy0 hb.size
      replace Y2 := za Y2 hy2 hb
      replace hy2 := zc4 hy2 hb.size
      replace hW := hW.trans (hb.mono hW.size)
      replace hY := hY.trans (hb.mono hY.size)
      clear hb
      replace hF : (fun U : World => U.cell? ⟨w.heap.size, 0, none⟩ = some (.slice a0A0 x0.syms.length c0A0) ∧ U.cell? ⟨w.heap.size + 1, 0, none⟩ = some (.int .i64 x2.rule) ∧ U.cell? ⟨w.heap.size + 1, 1, none⟩ = some (.int .i64 x2.n) ∧ U.cell? ⟨w.heap.size + 1, 2, none⟩ = some (.string x2.t.name) ∧ U.cell? ⟨w.heap.size + 1, 3, none⟩ = some (.slice a3A2 x2.t.kids.length c3A2) ∧ U.cell? ⟨w.heap.size + 1, 4, none⟩ = some (.slice a4A2 x2.kids.length c4A2)) _ := ⟨(by have h := Y0 0; simp only [zc3, zc1, zc2] at h; exact h), (by have h := Y2 0; simp only [zc3, zc1, zc2] at h; exact h), (by have h := Y2 1; simp only [zc3, zc1, zc2] at h; exact h), (by have h := Y2 2; simp only [zc3, zc1, zc2] at h; exact h), (by have h := Y2 3; simp only [zc3, zc1, zc2] at h; exact h), (by have h := Y2 4; simp only [zc3, zc1, zc2] at h; exact h)⟩
      refine hK.out _ _ hF ?_
      clear hK
      try simp only [Act.put, zcY, zcZ, zc0]
      refine Ever.take (i := 7) (v := (.tuple #[.agg #[.string ((whyT x0 x1 x2).getD Eqn.zero).a.name, .slice a1S ((whyT x0 x1 x2).getD Eqn.zero).a.kids.length c1S, .string ((whyT x0 x1 x2).getD Eqn.zero).b.name, .slice a3S ((whyT x0 x1 x2).getD Eqn.zero).b.kids.length c3S], .bool ((whyT x0 x1 x2).isSome)])) rfl (by kernel_rfl) (by kernel_rfl) (by kernel_rfl) (fun _ _ _ h => h) (Or.inl ⟨by rfl, fun U hU => ?_⟩) hF ?_
      ·obtain ⟨l0_0F, l2_0F, l2_1F, l2_2F, l2_3F, l2_4F⟩ := hU
       go_simp
      try simp only [Act.put, zcY, zcZ, zc0]
      refine Ever.take (i := 8) (v := (.agg #[.string ((whyT x0 x1 x2).getD Eqn.zero).a.name, .slice a1S ((whyT x0 x1 x2).getD Eqn.zero).a.kids.length c1S, .string ((whyT x0 x1 x2).getD Eqn.zero).b.name, .slice a3S ((whyT x0 x1 x2).getD Eqn.zero).b.kids.length c3S])) rfl (by kernel_rfl) (by kernel_rfl) (by kernel_rfl) (fun _ _ _ h => h) (Or.inl ⟨by rfl, fun U hU => ?_⟩) hF ?_
      ·obtain ⟨l0_0F, l2_0F, l2_1F, l2_2F, l2_3F, l2_4F⟩ := hU
       go_simp
      try simp only [Act.put, zcY, zcZ, zc0]
      refine Ever.take (i := 9) (v := (.bool ((whyT x0 x1 x2).isSome))) rfl (by kernel_rfl) (by kernel_rfl) (by kernel_rfl) (fun _ _ _ h => h) (Or.inl ⟨by rfl, fun U hU => ?_⟩) hF ?_
      ·obtain ⟨l0_0F, l2_0F, l2_1F, l2_2F, l2_3F, l2_4F⟩ := hU
       go_simp
      try simp only [Act.put, zcY, zcZ, zc0]
      refine Ever.one (i := 10) (by kernel_rfl) rfl (fun J9 hK => ?_)
      go_simp
      have hE := zp yS7 #[.string ⟨#[]⟩, .slice none 0 0, .string ⟨#[]⟩, .slice none 0 0] 39
      have hEf := zO yS7 #[.string ⟨#[]⟩, .slice none 0 0, .string ⟨#[]⟩, .slice none 0 0] 39
      have hEl : yS7.heap.size < (yS7.alloc (.cells #[.string ⟨#[]⟩, .slice none 0 0, .string ⟨#[]⟩, .slice none 0 0] 39)).heap.size := by simp
      have hb := zb yS7 (.cells #[.string ⟨#[]⟩, .slice none 0 0, .string ⟨#[]⟩, .slice none 0 0] 39)
      obtain ⟨EB, hEB⟩ : ∃ B, B = yS7.heap.size := ⟨_, rfl⟩
      rw [← hEB] at hE hEf hEl ⊢
      have hEW : w3.heap.size ≤ EB := by have := hW.size; omega
      have hne0 : w.heap.size ≠ EB := by have := hy0; omega
      have hne2 : w.heap.size + 1 ≠ EB := by have := hy2; omega
      have hne_S : ∀ b ∈ f_S, b ≠ EB := fun b hb' => by have := r_S.lt _ b hb'; omega
      clear hEB
      replace Y0 := za Y0 hy0 hb
      replace hy0 := zc4 hy0 hb.size
      replace Y2 := za Y2 hy2 hb
      replace hy2 := zc4 hy2 hb.size
      replace r_S := r_S.below hb
      replace fr_S := fr_S.below hb
      replace hW := hW.trans (hb.mono hW.size)
      replace hY := hY.trans (hb.mono hY.size)
      clear hb
      generalize yS7.alloc (.cells #[.string ⟨#[]⟩, .slice none 0 0, .string ⟨#[]⟩, .slice none 0 0] 39) = yS9 at *
      replace hF : (fun U : World => U.cell? ⟨w.heap.size, 0, none⟩ = some (.slice a0A0 x0.syms.length c0A0) ∧ U.cell? ⟨w.heap.size + 1, 0, none⟩ = some (.int .i64 x2.rule) ∧ U.cell? ⟨w.heap.size + 1, 1, none⟩ = some (.int .i64 x2.n) ∧ U.cell? ⟨w.heap.size + 1, 2, none⟩ = some (.string x2.t.name) ∧ U.cell? ⟨w.heap.size + 1, 3, none⟩ = some (.slice a3A2 x2.t.kids.length c3A2) ∧ U.cell? ⟨w.heap.size + 1, 4, none⟩ = some (.slice a4A2 x2.kids.length c4A2)) _ := ⟨(by have h := Y0 0; simp only [zc3, zc1, zc2] at h; exact h), (by have h := Y2 0; simp only [zc3, zc1, zc2] at h; exact h), (by have h := Y2 1; simp only [zc3, zc1, zc2] at h; exact h), (by have h := Y2 2; simp only [zc3, zc1, zc2] at h; exact h), (by have h := Y2 3; simp only [zc3, zc1, zc2] at h; exact h), (by have h := Y2 4; simp only [zc3, zc1, zc2] at h; exact h)⟩
      refine hK.out _ _ hF ?_
      clear hK
      try simp only [Act.put, zcY, zcZ, zc0]
      have m0 := hE 0; have n0 := hEf 0
      have m1 := hE 1; have n1 := hEf 1
      have m2 := hE 2; have n2 := hEf 2
      have m3 := hE 3; have n3 := hEf 3
      simp only [zc3, zc1, zc2] at m0 m1 m2 m3
      refine Ever.one (i := 11) (by kernel_rfl) rfl (fun J9 hK => ?_)
      go_simp
      have gE := zq (b := EB) [(0, .string ((whyT x0 x1 x2).getD Eqn.zero).a.name), (1, .slice a1S ((whyT x0 x1 x2).getD Eqn.zero).a.kids.length c1S), (2, .string ((whyT x0 x1 x2).getD Eqn.zero).b.name), (3, .slice a3S ((whyT x0 x1 x2).getD Eqn.zero).b.kids.length c3S)] (l := [.string ⟨#[]⟩, .slice none 0 0, .string ⟨#[]⟩, .slice none 0 0]) hE (by simp)
      have gh : ∀ c, c ≠ EB → (zF EB [(0, .string ((whyT x0 x1 x2).getD Eqn.zero).a.name), (1, .slice a1S ((whyT x0 x1 x2).getD Eqn.zero).a.kids.length c1S), (2, .string ((whyT x0 x1 x2).getD Eqn.zero).b.name), (3, .slice a3S ((whyT x0 x1 x2).getD Eqn.zero).b.kids.length c3S)] yS9).heap[c]? = yS9.heap[c]? := fun c hc => zK hc _ _
      have gW := zn (b := EB) hEW [(0, .string ((whyT x0 x1 x2).getD Eqn.zero).a.name), (1, .slice a1S ((whyT x0 x1 x2).getD Eqn.zero).a.kids.length c1S), (2, .string ((whyT x0 x1 x2).getD Eqn.zero).b.name), (3, .slice a3S ((whyT x0 x1 x2).getD Eqn.zero).b.kids.length c3S)] hW
      have gl : EB < (zF EB [(0, .string ((whyT x0 x1 x2).getD Eqn.zero).a.name), (1, .slice a1S ((whyT x0 x1 x2).getD Eqn.zero).a.kids.length c1S), (2, .string ((whyT x0 x1 x2).getD Eqn.zero).b.name), (3, .slice a3S ((whyT x0 x1 x2).getD Eqn.zero).b.kids.length c3S)] yS9).heap.size := zc4 hEl (zn (b := EB) (B := 0) (Nat.zero_le _) [(0, .string ((whyT x0 x1 x2).getD Eqn.zero).a.name), (1, .slice a1S ((whyT x0 x1 x2).getD Eqn.zero).a.kids.length c1S), (2, .string ((whyT x0 x1 x2).getD Eqn.zero).b.name), (3, .slice a3S ((whyT x0 x1 x2).getD Eqn.zero).b.kids.length c3S)] (Below.refl 0 yS9)).size
      simp only [zF, zQ, zcZ, zc0] at gE gh gW gl
      have gs : SameOn f_S _ _ := fun b hb => gh b (hne_S b hb)
      replace r_S := r_S.same _ gs
      replace fr_S := fr_S.same gs
      clear gs
      replace Y0 := zl Y0 (gh _ hne0)
      replace Y2 := zl Y2 (gh _ hne2)
      clear hW hY hE hEf m0 n0 m1 n1 m2 n2 m3 n3
      replace hF : (fun U : World => U.cell? ⟨w.heap.size, 0, none⟩ = some (.slice a0A0 x0.syms.length c0A0) ∧ U.cell? ⟨w.heap.size + 1, 0, none⟩ = some (.int .i64 x2.rule) ∧ U.cell? ⟨w.heap.size + 1, 1, none⟩ = some (.int .i64 x2.n) ∧ U.cell? ⟨w.heap.size + 1, 2, none⟩ = some (.string x2.t.name) ∧ U.cell? ⟨w.heap.size + 1, 3, none⟩ = some (.slice a3A2 x2.t.kids.length c3A2) ∧ U.cell? ⟨w.heap.size + 1, 4, none⟩ = some (.slice a4A2 x2.kids.length c4A2)) _ := ⟨(by have h := Y0 0; simp only [zc3, zc1, zc2] at h; exact h), (by have h := Y2 0; simp only [zc3, zc1, zc2] at h; exact h), (by have h := Y2 1; simp only [zc3, zc1, zc2] at h; exact h), (by have h := Y2 2; simp only [zc3, zc1, zc2] at h; exact h), (by have h := Y2 3; simp only [zc3, zc1, zc2] at h; exact h), (by have h := Y2 4; simp only [zc3, zc1, zc2] at h; exact h)⟩
      refine hK.out _ _ hF ?_
      clear hK
      try simp only [Act.put, zcY, zcZ, zc0]
      refine Ever.one (i := 12) (by kernel_rfl) rfl (fun J9 hK => ?_)
      go_simp
      refine hK.out _ _ hF ?_
      clear hK
      try simp only [Act.put, zcY, zcZ, zc0]
      refine Ever.done (by kernel_rfl) ?_ _
      go_wp2_with fail
      go_meet
      case rel => exact ⟨EB, _, _, _, _, _, rfl, rfl, gE, gl, r_S, fr_S, gW⟩
     ·go_simp
      have hE := zp yS5 #[.string ⟨#[]⟩, .slice none 0 0, .string ⟨#[]⟩, .slice none 0 0] 39
      have hEf := zO yS5 #[.string ⟨#[]⟩, .slice none 0 0, .string ⟨#[]⟩, .slice none 0 0] 39
      have hEl : yS5.heap.size < (yS5.alloc (.cells #[.string ⟨#[]⟩, .slice none 0 0, .string ⟨#[]⟩, .slice none 0 0] 39)).heap.size := by simp
      have hb := zb yS5 (.cells #[.string ⟨#[]⟩, .slice none 0 0, .string ⟨#[]⟩, .slice none 0 0] 39)
      obtain ⟨EB, hEB⟩ : ∃ B, B = yS5.heap.size := ⟨_, rfl⟩
      rw [← hEB] at hE hEf hEl ⊢
      have hEW : w3.heap.size ≤ EB := by have := hW.size; omega
      have hne0 : w.heap.size ≠ EB := by have := hy0; omega
      have hne2 : w.heap.size + 1 ≠ EB := by have := hy2; omega
      clear hEB
      replace Y0 := za Y0 hy0 hb
      replace hy0 := zc4 hy0 hb.size
      replace Y2 := za Y2 hy2 hb
      replace hy2 := zc4 hy2 hb.size
      replace sr0 := sr0.below hb
      replace sr1 := sr1.below hb
      replace sr2 := sr2.below hb
      replace hW := hW.trans (hb.mono hW.size)
      replace hY := hY.trans (hb.mono hY.size)
      clear hb
      generalize yS5.alloc (.cells #[.string ⟨#[]⟩, .slice none 0 0, .string ⟨#[]⟩, .slice none 0 0] 39) = yS8 at *
      replace hF : (fun U : World => U.cell? ⟨w.heap.size, 0, none⟩ = some (.slice a0A0 x0.syms.length c0A0) ∧ U.cell? ⟨w.heap.size + 1, 0, none⟩ = some (.int .i64 x2.rule) ∧ U.cell? ⟨w.heap.size + 1, 1, none⟩ = some (.int .i64 x2.n) ∧ U.cell? ⟨w.heap.size + 1, 2, none⟩ = some (.string x2.t.name) ∧ U.cell? ⟨w.heap.size + 1, 3, none⟩ = some (.slice a3A2 x2.t.kids.length c3A2) ∧ U.cell? ⟨w.heap.size + 1, 4, none⟩ = some (.slice a4A2 x2.kids.length c4A2)) _ := ⟨(by have h := Y0 0; simp only [zc3, zc1, zc2] at h; exact h), (by have h := Y2 0; simp only [zc3, zc1, zc2] at h; exact h), (by have h := Y2 1; simp only [zc3, zc1, zc2] at h; exact h), (by have h := Y2 2; simp only [zc3, zc1, zc2] at h; exact h), (by have h := Y2 3; simp only [zc3, zc1, zc2] at h; exact h), (by have h := Y2 4; simp only [zc3, zc1, zc2] at h; exact h)⟩
      refine hK.out _ _ hF ?_
      clear hK
      try simp only [Act.put, zcY, zcZ, zc0]
      refine Ever.one (i := 6) (by kernel_rfl) rfl (fun J9 hK => ?_)
      go_simp
      go_wp2_with (go_at_call 7; refine (zX x0 x1 x2 _ _ _ _ _ _ _ (zL hbig1) (by omega) (Wy.thin_of _ x2 (Nat.le_refl _) hbig2) (by exact sr0) (by exact sr1) (by exact sr2)).mono ?_; rintro e yS10 ⟨vS, f_S, rfl, r_S, fr_S, hb⟩)
      have r_S' := r_S
      obtain ⟨a1S, c1S, f1S, a3S, c3S, f3S, rfl, _, _, _, _, _⟩ := Eqn.open r_S'
      have hne_S : ∀ b ∈ f_S, b ≠ EB := fun b hb' => by have := (fr_S.2 b hb').1; omega
      replace fr_S := fr_S.mono (lo' := w3.heap.size) (by have := hW.size; omega)
      replace Y0 := za Y0 hy0 hb
      replace hy0 := zc4 hy0 hb.size
      replace Y2 := za Y2 hy2 hb
      replace hy2 := zc4 hy2 hb.size
      replace hE := za hE hEl hb
      replace hEf := fun j => (zj (hb.block _ hEl)).trans (hEf j)
      replace hEl := zc4 hEl hb.size
      replace hW := hW.trans (hb.mono hW.size)
      replace hY := hY.trans (hb.mono hY.size)
      clear hb
      replace hF : (fun U : World => U.cell? ⟨w.heap.size, 0, none⟩ = some (.slice a0A0 x0.syms.length c0A0) ∧ U.cell? ⟨w.heap.size + 1, 0, none⟩ = some (.int .i64 x2.rule) ∧ U.cell? ⟨w.heap.size + 1, 1, none⟩ = some (.int .i64 x2.n) ∧ U.cell? ⟨w.heap.size + 1, 2, none⟩ = some (.string x2.t.name) ∧ U.cell? ⟨w.heap.size + 1, 3, none⟩ = some (.slice a3A2 x2.t.kids.length c3A2) ∧ U.cell? ⟨w.heap.size + 1, 4, none⟩ = some (.slice a4A2 x2.kids.length c4A2)) _ := ⟨(by have h := Y0 0; simp only [zc3, zc1, zc2] at h; exact h), (by have h := Y2 0; simp only [zc3, zc1, zc2] at h; exact h), (by have h := Y2 1; simp only [zc3, zc1, zc2] at h; exact h), (by have h := Y2 2; simp only [zc3, zc1, zc2] at h; exact h), (by have h := Y2 3; simp only [zc3, zc1, zc2] at h; exact h), (by have h := Y2 4; simp only [zc3, zc1, zc2] at h; exact h)⟩
      refine hK.out _ _ hF ?_
      clear hK
      try simp only [Act.put, zcY, zcZ, zc0]
      refine Ever.take (i := 7) (v := (.tuple #[.agg #[.string ((whyT x0 x1 x2).getD Eqn.zero).a.name, .slice a1S ((whyT x0 x1 x2).getD Eqn.zero).a.kids.length c1S, .string ((whyT x0 x1 x2).getD Eqn.zero).b.name, .slice a3S ((whyT x0 x1 x2).getD Eqn.zero).b.kids.length c3S], .bool ((whyT x0 x1 x2).isSome)])) rfl (by kernel_rfl) (by kernel_rfl) (by kernel_rfl) (fun _ _ _ h => h) (Or.inl ⟨by rfl, fun U hU => ?_⟩) hF ?_
      ·obtain ⟨l0_0F, l2_0F, l2_1F, l2_2F, l2_3F, l2_4F⟩ := hU
       go_simp
      try simp only [Act.put, zcY, zcZ, zc0]
      refine Ever.take (i := 8) (v := (.agg #[.string ((whyT x0 x1 x2).getD Eqn.zero).a.name, .slice a1S ((whyT x0 x1 x2).getD Eqn.zero).a.kids.length c1S, .string ((whyT x0 x1 x2).getD Eqn.zero).b.name, .slice a3S ((whyT x0 x1 x2).getD Eqn.zero).b.kids.length c3S])) rfl (by kernel_rfl) (by kernel_rfl) (by kernel_rfl) (fun _ _ _ h => h) (Or.inl ⟨by rfl, fun U hU => ?_⟩) hF ?_
      ·obtain ⟨l0_0F, l2_0F, l2_1F, l2_2F, l2_3F, l2_4F⟩ := hU
       go_simp
      try simp only [Act.put, zcY, zcZ, zc0]
      refine Ever.take (i := 9) (v := (.bool ((whyT x0 x1 x2).isSome))) rfl (by kernel_rfl) (by kernel_rfl) (by kernel_rfl) (fun _ _ _ h => h) (Or.inl ⟨by rfl, fun U hU => ?_⟩) hF ?_
      ·obtain ⟨l0_0F, l2_0F, l2_1F, l2_2F, l2_3F, l2_4F⟩ := hU
       go_simp
      try simp only [Act.put, zcY, zcZ, zc0]
      have m0 := hE 0; have n0 := hEf 0
      have m1 := hE 1; have n1 := hEf 1
      have m2 := hE 2; have n2 := hEf 2
      have m3 := hE 3; have n3 := hEf 3
      simp only [zc3, zc1, zc2] at m0 m1 m2 m3
      refine Ever.one (i := 11) (by kernel_rfl) rfl (fun J9 hK => ?_)
      go_simp
      have gE := zq (b := EB) [(0, .string ((whyT x0 x1 x2).getD Eqn.zero).a.name), (1, .slice a1S ((whyT x0 x1 x2).getD Eqn.zero).a.kids.length c1S), (2, .string ((whyT x0 x1 x2).getD Eqn.zero).b.name), (3, .slice a3S ((whyT x0 x1 x2).getD Eqn.zero).b.kids.length c3S)] (l := [.string ⟨#[]⟩, .slice none 0 0, .string ⟨#[]⟩, .slice none 0 0]) hE (by simp)
      have gh : ∀ c, c ≠ EB → (zF EB [(0, .string ((whyT x0 x1 x2).getD Eqn.zero).a.name), (1, .slice a1S ((whyT x0 x1 x2).getD Eqn.zero).a.kids.length c1S), (2, .string ((whyT x0 x1 x2).getD Eqn.zero).b.name), (3, .slice a3S ((whyT x0 x1 x2).getD Eqn.zero).b.kids.length c3S)] yS10).heap[c]? = yS10.heap[c]? := fun c hc => zK hc _ _
      have gW := zn (b := EB) hEW [(0, .string ((whyT x0 x1 x2).getD Eqn.zero).a.name), (1, .slice a1S ((whyT x0 x1 x2).getD Eqn.zero).a.kids.length c1S), (2, .string ((whyT x0 x1 x2).getD Eqn.zero).b.name), (3, .slice a3S ((whyT x0 x1 x2).getD Eqn.zero).b.kids.length c3S)] hW
      have gl : EB < (zF EB [(0, .string ((whyT x0 x1 x2).getD Eqn.zero).a.name), (1, .slice a1S ((whyT x0 x1 x2).getD Eqn.zero).a.kids.length c1S), (2, .string ((whyT x0 x1 x2).getD Eqn.zero).b.name), (3, .slice a3S ((whyT x0 x1 x2).getD Eqn.zero).b.kids.length c3S)] yS10).heap.size := zc4 hEl (zn (b := EB) (B := 0) (Nat.zero_le _) [(0, .string ((whyT x0 x1 x2).getD Eqn.zero).a.name), (1, .slice a1S ((whyT x0 x1 x2).getD Eqn.zero).a.kids.length c1S), (2, .string ((whyT x0 x1 x2).getD Eqn.zero).b.name), (3, .slice a3S ((whyT x0 x1 x2).getD Eqn.zero).b.kids.length c3S)] (Below.refl 0 yS10)).size
      simp only [zF, zQ, zcZ, zc0] at gE gh gW gl
      have gs : SameOn f_S _ _ := fun b hb => gh b (hne_S b hb)
      replace r_S := r_S.same _ gs
      replace fr_S := fr_S.same gs
      clear gs
      replace Y0 := zl Y0 (gh _ hne0)
      replace Y2 := zl Y2 (gh _ hne2)
      clear hW hY hE hEf m0 n0 m1 n1 m2 n2 m3 n3
      replace hF : (fun U : World => U.cell? ⟨w.heap.size, 0, none⟩ = some (.slice a0A0 x0.syms.length c0A0) ∧ U.cell? ⟨w.heap.size + 1, 0, none⟩ = some (.int .i64 x2.rule) ∧ U.cell? ⟨w.heap.size + 1, 1, none⟩ = some (.int .i64 x2.n) ∧ U.cell? ⟨w.heap.size + 1, 2, none⟩ = some (.string x2.t.name) ∧ U.cell? ⟨w.heap.size + 1, 3, none⟩ = some (.slice a3A2 x2.t.kids.length c3A2) ∧ U.cell? ⟨w.heap.size + 1, 4, none⟩ = some (.slice a4A2 x2.kids.length c4A2)) _ := ⟨(by have h := Y0 0; simp only [zc3, zc1, zc2] at h; exact h), (by have h := Y2 0; simp only [zc3, zc1, zc2] at h; exact h), (by have h := Y2 1; simp only [zc3, zc1, zc2] at h; exact h), (by have h := Y2 2; simp only [zc3, zc1, zc2] at h; exact h), (by have h := Y2 3; simp only [zc3, zc1, zc2] at h; exact h), (by have h := Y2 4; simp only [zc3, zc1, zc2] at h; exact h)⟩
      refine hK.out _ _ hF ?_
      clear hK
      try simp only [Act.put, zcY, zcZ, zc0]
      refine Ever.one (i := 12) (by kernel_rfl) rfl (fun J9 hK => ?_)
      go_simp
      refine hK.out _ _ hF ?_
      clear hK
      try simp only [Act.put, zcY, zcZ, zc0]
      refine Ever.done (by kernel_rfl) ?_ _
      go_wp2_with fail
      go_meet
      case rel => exact ⟨EB, _, _, _, _, _, rfl, rfl, gE, gl, r_S, fr_S, gW⟩
    ·go_simp
     have hE := zp yS3 #[.string ⟨#[]⟩, .slice none 0 0, .string ⟨#[]⟩, .slice none 0 0] 39
     have hEf := zO yS3 #[.string ⟨#[]⟩, .slice none 0 0, .string ⟨#[]⟩, .slice none 0 0] 39
     have hEl : yS3.heap.size < (yS3.alloc (.cells #[.string ⟨#[]⟩, .slice none 0 0, .string ⟨#[]⟩, .slice none 0 0] 39)).heap.size := by simp
     have hb := zb yS3 (.cells #[.string ⟨#[]⟩, .slice none 0 0, .string ⟨#[]⟩, .slice none 0 0] 39)
     obtain ⟨EB, hEB⟩ : ∃ B, B = yS3.heap.size := ⟨_, rfl⟩
     rw [← hEB] at hE hEf hEl ⊢
     have hEW : w3.heap.size ≤ EB := by have := hW.size; omega
     have hne0 : w.heap.size ≠ EB := by have := hy0; omega
     have hne2 : w.heap.size + 1 ≠ EB := by have := hy2; omega
     clear hEB
     replace Y0 := za Y0 hy0 hb
     replace hy0 := zc4 hy0 hb.size
     replace Y2 := za Y2 hy2 hb
     replace hy2 := zc4 hy2 hb.size
     replace sr0 := sr0.below hb
     replace sr1 := sr1.below hb
     replace hW := hW.trans (hb.mono hW.size)
     replace hY := hY.trans (hb.mono hY.size)
     clear hb
     generalize yS3.alloc (.cells #[.string ⟨#[]⟩, .slice none 0 0, .string ⟨#[]⟩, .slice none 0 0] 39) = yS6 at *
     replace hF : (fun U : World => U.cell? ⟨w.heap.size, 0, none⟩ = some (.slice a0A0 x0.syms.length c0A0) ∧ U.cell? ⟨w.heap.size + 1, 0, none⟩ = some (.int .i64 x2.rule) ∧ U.cell? ⟨w.heap.size + 1, 1, none⟩ = some (.int .i64 x2.n) ∧ U.cell? ⟨w.heap.size + 1, 2, none⟩ = some (.string x2.t.name) ∧ U.cell? ⟨w.heap.size + 1, 3, none⟩ = some (.slice a3A2 x2.t.kids.length c3A2) ∧ U.cell? ⟨w.heap.size + 1, 4, none⟩ = some (.slice a4A2 x2.kids.length c4A2)) _ := ⟨(by have h := Y0 0; simp only [zc3, zc1, zc2] at h; exact h), (by have h := Y2 0; simp only [zc3, zc1, zc2] at h; exact h), (by have h := Y2 1; simp only [zc3, zc1, zc2] at h; exact h), (by have h := Y2 2; simp only [zc3, zc1, zc2] at h; exact h), (by have h := Y2 3; simp only [zc3, zc1, zc2] at h; exact h), (by have h := Y2 4; simp only [zc3, zc1, zc2] at h; exact h)⟩
     refine hK.out _ _ hF ?_
     clear hK
     try simp only [Act.put, zcY, zcZ, zc0]
     refine Ever.one (i := 5) (by kernel_rfl) rfl (fun J9 hK => ?_)
     go_simp
     go_wp2_with (go_at_call 10; refine (zap x2 _ _ _ hbig2 (by exact hv2.below hY)).mono ?_; rintro e yS11 ⟨s2, sf2, rfl, sr2, sg2, hb⟩)
     replace Y0 := za Y0 hy0 hb
     replace hy0 := zc4 hy0 hb.size
     replace Y2 := za Y2 hy2 hb
     replace hy2 := zc4 hy2 hb.size
     replace sr0 := sr0.below hb
     replace sr1 := sr1.below hb
     replace hE := za hE hEl hb
     replace hEf := fun j => (zj (hb.block _ hEl)).trans (hEf j)
     replace hEl := zc4 hEl hb.size
     replace hW := hW.trans (hb.mono hW.size)
     replace hY := hY.trans (hb.mono hY.size)
     clear hb
     replace hF : (fun U : World => U.cell? ⟨w.heap.size, 0, none⟩ = some (.slice a0A0 x0.syms.length c0A0) ∧ U.cell? ⟨w.heap.size + 1, 0, none⟩ = some (.int .i64 x2.rule) ∧ U.cell? ⟨w.heap.size + 1, 1, none⟩ = some (.int .i64 x2.n) ∧ U.cell? ⟨w.heap.size + 1, 2, none⟩ = some (.string x2.t.name) ∧ U.cell? ⟨w.heap.size + 1, 3, none⟩ = some (.slice a3A2 x2.t.kids.length c3A2) ∧ U.cell? ⟨w.heap.size + 1, 4, none⟩ = some (.slice a4A2 x2.kids.length c4A2)) _ := ⟨(by have h := Y0 0; simp only [zc3, zc1, zc2] at h; exact h), (by have h := Y2 0; simp only [zc3, zc1, zc2] at h; exact h), (by have h := Y2 1; simp only [zc3, zc1, zc2] at h; exact h), (by have h := Y2 2; simp only [zc3, zc1, zc2] at h; exact h), (by have h := Y2 3; simp only [zc3, zc1, zc2] at h; exact h), (by have h := Y2 4; simp only [zc3, zc1, zc2] at h; exact h)⟩
     refine hK.out _ _ hF ?_
     clear hK
     try simp only [Act.put, zcY, zcZ, zc0]
     refine Ever.one (i := 6) (by kernel_rfl) rfl (fun J9 hK => ?_)
     go_simp
     go_wp2_with (go_at_call 7; refine (zX x0 x1 x2 _ _ _ _ _ _ _ (zL hbig1) (by omega) (Wy.thin_of _ x2 (Nat.le_refl _) hbig2) (by exact sr0) (by exact sr1) (by exact sr2)).mono ?_; rintro e yS12 ⟨vS, f_S, rfl, r_S, fr_S, hb⟩)
     have r_S' := r_S
     obtain ⟨a1S, c1S, f1S, a3S, c3S, f3S, rfl, _, _, _, _, _⟩ := Eqn.open r_S'
     have hne_S : ∀ b ∈ f_S, b ≠ EB := fun b hb' => by have := (fr_S.2 b hb').1; omega
     replace fr_S := fr_S.mono (lo' := w3.heap.size) (by have := hW.size; omega)
     replace Y0 := za Y0 hy0 hb
     replace hy0 := zc4 hy0 hb.size
     replace Y2 := za Y2 hy2 hb
     replace hy2 := zc4 hy2 hb.size
     replace hE := za hE hEl hb
     replace hEf := fun j => (zj (hb.block _ hEl)).trans (hEf j)
     replace hEl := zc4 hEl hb.size
     replace hW := hW.trans (hb.mono hW.size)
     replace hY := hY.trans (hb.mono hY.size)
     clear hb
     replace hF : (fun U : World => U.cell? ⟨w.heap.size, 0, none⟩ = some (.slice a0A0 x0.syms.length c0A0) ∧ U.cell? ⟨w.heap.size + 1, 0, none⟩ = some (.int .i64 x2.rule) ∧ U.cell? ⟨w.heap.size + 1, 1, none⟩ = some (.int .i64 x2.n) ∧ U.cell? ⟨w.heap.size + 1, 2, none⟩ = some (.string x2.t.name) ∧ U.cell? ⟨w.heap.size + 1, 3, none⟩ = some (.slice a3A2 x2.t.kids.length c3A2) ∧ U.cell? ⟨w.heap.size + 1, 4, none⟩ = some (.slice a4A2 x2.kids.length c4A2)) _ := ⟨(by have h := Y0 0; simp only [zc3, zc1, zc2] at h; exact h), (by have h := Y2 0; simp only [zc3, zc1, zc2] at h; exact h), (by have h := Y2 1; simp only [zc3, zc1, zc2] at h; exact h), (by have h := Y2 2; simp only [zc3, zc1, zc2] at h; exact h), (by have h := Y2 3; simp only [zc3, zc1, zc2] at h; exact h), (by have h := Y2 4; simp only [zc3, zc1, zc2] at h; exact h)⟩
     refine hK.out _ _ hF ?_
     clear hK
     try simp only [Act.put, zcY, zcZ, zc0]
     refine Ever.take (i := 7) (v := (.tuple #[.agg #[.string ((whyT x0 x1 x2).getD Eqn.zero).a.name, .slice a1S ((whyT x0 x1 x2).getD Eqn.zero).a.kids.length c1S, .string ((whyT x0 x1 x2).getD Eqn.zero).b.name, .slice a3S ((whyT x0 x1 x2).getD Eqn.zero).b.kids.length c3S], .bool ((whyT x0 x1 x2).isSome)])) rfl (by kernel_rfl) (by kernel_rfl) (by kernel_rfl) (fun _ _ _ h => h) (Or.inl ⟨by rfl, fun U hU => ?_⟩) hF ?_
     ·obtain ⟨l0_0F, l2_0F, l2_1F, l2_2F, l2_3F, l2_4F⟩ := hU
      go_simp
     try simp only [Act.put, zcY, zcZ, zc0]
     refine Ever.take (i := 8) (v := (.agg #[.string ((whyT x0 x1 x2).getD Eqn.zero).a.name, .slice a1S ((whyT x0 x1 x2).getD Eqn.zero).a.kids.length c1S, .string ((whyT x0 x1 x2).getD Eqn.zero).b.name, .slice a3S ((whyT x0 x1 x2).getD Eqn.zero).b.kids.length c3S])) rfl (by kernel_rfl) (by kernel_rfl) (by kernel_rfl) (fun _ _ _ h => h) (Or.inl ⟨by rfl, fun U hU => ?_⟩) hF ?_
     ·obtain ⟨l0_0F, l2_0F, l2_1F, l2_2F, l2_3F, l2_4F⟩ := hU
      go_simp
     try simp only [Act.put, zcY, zcZ, zc0]
     refine Ever.take (i := 9) (v := (.bool ((whyT x0 x1 x2).isSome))) rfl (by kernel_rfl) (by kernel_rfl) (by kernel_rfl) (fun _ _ _ h => h) (Or.inl ⟨by rfl, fun U hU => ?_⟩) hF ?_
     ·obtain ⟨l0_0F, l2_0F, l2_1F, l2_2F, l2_3F, l2_4F⟩ := hU
      go_simp
     try simp only [Act.put, zcY, zcZ, zc0]
     have m0 := hE 0; have n0 := hEf 0
     have m1 := hE 1; have n1 := hEf 1
     have m2 := hE 2; have n2 := hEf 2
     have m3 := hE 3; have n3 := hEf 3
     simp only [zc3, zc1, zc2] at m0 m1 m2 m3
     refine Ever.one (i := 11) (by kernel_rfl) rfl (fun J9 hK => ?_)
     go_simp
     have gE := zq (b := EB) [(0, .string ((whyT x0 x1 x2).getD Eqn.zero).a.name), (1, .slice a1S ((whyT x0 x1 x2).getD Eqn.zero).a.kids.length c1S), (2, .string ((whyT x0 x1 x2).getD Eqn.zero).b.name), (3, .slice a3S ((whyT x0 x1 x2).getD Eqn.zero).b.kids.length c3S)] (l := [.string ⟨#[]⟩, .slice none 0 0, .string ⟨#[]⟩, .slice none 0 0]) hE (by simp)
     have gh : ∀ c, c ≠ EB → (zF EB [(0, .string ((whyT x0 x1 x2).getD Eqn.zero).a.name), (1, .slice a1S ((whyT x0 x1 x2).getD Eqn.zero).a.kids.length c1S), (2, .string ((whyT x0 x1 x2).getD Eqn.zero).b.name), (3, .slice a3S ((whyT x0 x1 x2).getD Eqn.zero).b.kids.length c3S)] yS12).heap[c]? = yS12.heap[c]? := fun c hc => zK hc _ _
     have gW := zn (b := EB) hEW [(0, .string ((whyT x0 x1 x2).getD Eqn.zero).a.name), (1, .slice a1S ((whyT x0 x1 x2).getD Eqn.zero).a.kids.length c1S), (2, .string ((whyT x0 x1 x2).getD Eqn.zero).b.name), (3, .slice a3S ((whyT x0 x1 x2).getD Eqn.zero).b.kids.length c3S)] hW
     have gl : EB < (zF EB [(0, .string ((whyT x0 x1 x2).getD Eqn.zero).a.name), (1, .slice a1S ((whyT x0 x1 x2).getD Eqn.zero).a.kids.length c1S), (2, .string ((whyT x0 x1 x2).getD Eqn.zero).b.name), (3, .slice a3S ((whyT x0 x1 x2).getD Eqn.zero).b.kids.length c3S)] yS12).heap.size := zc4 hEl (zn (b := EB) (B := 0) (Nat.zero_le _) [(0, .string ((whyT x0 x1 x2).getD Eqn.zero).a.name), (1, .slice a1S ((whyT x0 x1 x2).getD Eqn.zero).a.kids.length c1S), (2, .string ((whyT x0 x1 x2).getD Eqn.zero).b.name), (3, .slice a3S ((whyT x0 x1 x2).getD Eqn.zero).b.kids.length c3S)] (Below.refl 0 yS12)).size
     simp only [zF, zQ, zcZ, zc0] at gE gh gW gl
     have gs : SameOn f_S _ _ := fun b hb => gh b (hne_S b hb)
     replace r_S := r_S.same _ gs
     replace fr_S := fr_S.same gs
     clear gs
     replace Y0 := zl Y0 (gh _ hne0)
     replace Y2 := zl Y2 (gh _ hne2)
     clear hW hY hE hEf m0 n0 m1 n1 m2 n2 m3 n3
     replace hF : (fun U : World => U.cell? ⟨w.heap.size, 0, none⟩ = some (.slice a0A0 x0.syms.length c0A0) ∧ U.cell? ⟨w.heap.size + 1, 0, none⟩ = some (.int .i64 x2.rule) ∧ U.cell? ⟨w.heap.size + 1, 1, none⟩ = some (.int .i64 x2.n) ∧ U.cell? ⟨w.heap.size + 1, 2, none⟩ = some (.string x2.t.name) ∧ U.cell? ⟨w.heap.size + 1, 3, none⟩ = some (.slice a3A2 x2.t.kids.length c3A2) ∧ U.cell? ⟨w.heap.size + 1, 4, none⟩ = some (.slice a4A2 x2.kids.length c4A2)) _ := ⟨(by have h := Y0 0; simp only [zc3, zc1, zc2] at h; exact h), (by have h := Y2 0; simp only [zc3, zc1, zc2] at h; exact h), (by have h := Y2 1; simp only [zc3, zc1, zc2] at h; exact h), (by have h := Y2 2; simp only [zc3, zc1, zc2] at h; exact h), (by have h := Y2 3; simp only [zc3, zc1, zc2] at h; exact h), (by have h := Y2 4; simp only [zc3, zc1, zc2] at h; exact h)⟩
     refine hK.out _ _ hF ?_
     clear hK
     try simp only [Act.put, zcY, zcZ, zc0]
     refine Ever.one (i := 12) (by kernel_rfl) rfl (fun J9 hK => ?_)
     go_simp
     refine hK.out _ _ hF ?_
     clear hK
     try simp only [Act.put, zcY, zcZ, zc0]
     refine Ever.done (by kernel_rfl) ?_ _
     go_wp2_with fail
     go_meet
     case rel => exact ⟨EB, _, _, _, _, _, rfl, rfl, gE, gl, r_S, fr_S, gW⟩
   ·go_simp
    have hE := zp yS1 #[.string ⟨#[]⟩, .slice none 0 0, .string ⟨#[]⟩, .slice none 0 0] 39
    have hEf := zO yS1 #[.string ⟨#[]⟩, .slice none 0 0, .string ⟨#[]⟩, .slice none 0 0] 39
    have hEl : yS1.heap.size < (yS1.alloc (.cells #[.string ⟨#[]⟩, .slice none 0 0, .string ⟨#[]⟩, .slice none 0 0] 39)).heap.size := by simp
    have hb := zb yS1 (.cells #[.string ⟨#[]⟩, .slice none 0 0, .string ⟨#[]⟩, .slice none 0 0] 39)
    obtain ⟨EB, hEB⟩ : ∃ B, B = yS1.heap.size := ⟨_, rfl⟩
    rw [← hEB] at hE hEf hEl ⊢
    have hEW : w3.heap.size ≤ EB := by have := hW.size; omega
    have hne0 : w.heap.size ≠ EB := by have := hy0; omega
    have hne2 : w.heap.size + 1 ≠ EB := by have := hy2; omega
    clear hEB
    replace Y0 := za Y0 hy0 hb
    replace hy0 := zc4 hy0 hb.size
    replace Y2 := za Y2 hy2 hb
    replace hy2 := zc4 hy2 hb.size
    replace sr0 := sr0.below hb
    replace hW := hW.trans (hb.mono hW.size)
    replace hY := hY.trans (hb.mono hY.size)
    clear hb
    generalize yS1.alloc (.cells #[.string ⟨#[]⟩, .slice none 0 0, .string ⟨#[]⟩, .slice none 0 0] 39) = yS4 at *
    replace hF : (fun U : World => U.cell? ⟨w.heap.size, 0, none⟩ = some (.slice a0A0 x0.syms.length c0A0) ∧ U.cell? ⟨w.heap.size + 1, 0, none⟩ = some (.int .i64 x2.rule) ∧ U.cell? ⟨w.heap.size + 1, 1, none⟩ = some (.int .i64 x2.n) ∧ U.cell? ⟨w.heap.size + 1, 2, none⟩ = some (.string x2.t.name) ∧ U.cell? ⟨w.heap.size + 1, 3, none⟩ = some (.slice a3A2 x2.t.kids.length c3A2) ∧ U.cell? ⟨w.heap.size + 1, 4, none⟩ = some (.slice a4A2 x2.kids.length c4A2)) _ := ⟨(by have h := Y0 0; simp only [zc3, zc1, zc2] at h; exact h), (by have h := Y2 0; simp only [zc3, zc1, zc2] at h; exact h), (by have h := Y2 1; simp only [zc3, zc1, zc2] at h; exact h), (by have h := Y2 2; simp only [zc3, zc1, zc2] at h; exact h), (by have h := Y2 3; simp only [zc3, zc1, zc2] at h; exact h), (by have h := Y2 4; simp only [zc3, zc1, zc2] at h; exact h)⟩
    refine hK.out _ _ hF ?_
    clear hK
    try simp only [Act.put, zcY, zcZ, zc0]
    refine Ever.one (i := 3) (by kernel_rfl) rfl (fun J9 hK => ?_)
    go_simp
    go_wp2_with (go_at_call 9; refine (zaA x1 _ _ _ hbig1 (by exact hv1.below hY)).mono ?_; rintro e yS13 ⟨s1, sf1, rfl, sr1, sg1, hb⟩)
    replace Y0 := za Y0 hy0 hb
    replace hy0 := zc4 hy0 hb.size
    replace Y2 := za Y2 hy2 hb
    replace hy2 := zc4 hy2 hb.size
    replace sr0 := sr0.below hb
    replace hE := za hE hEl hb
    replace hEf := fun j => (zj (hb.block _ hEl)).trans (hEf j)
    replace hEl := zc4 hEl hb.size
    replace hW := hW.trans (hb.mono hW.size)
    replace hY := hY.trans (hb.mono hY.size)
    clear hb
    replace hF : (fun U : World => U.cell? ⟨w.heap.size, 0, none⟩ = some (.slice a0A0 x0.syms.length c0A0) ∧ U.cell? ⟨w.heap.size + 1, 0, none⟩ = some (.int .i64 x2.rule) ∧ U.cell? ⟨w.heap.size + 1, 1, none⟩ = some (.int .i64 x2.n) ∧ U.cell? ⟨w.heap.size + 1, 2, none⟩ = some (.string x2.t.name) ∧ U.cell? ⟨w.heap.size + 1, 3, none⟩ = some (.slice a3A2 x2.t.kids.length c3A2) ∧ U.cell? ⟨w.heap.size + 1, 4, none⟩ = some (.slice a4A2 x2.kids.length c4A2)) _ := ⟨(by have h := Y0 0; simp only [zc3, zc1, zc2] at h; exact h), (by have h := Y2 0; simp only [zc3, zc1, zc2] at h; exact h), (by have h := Y2 1; simp only [zc3, zc1, zc2] at h; exact h), (by have h := Y2 2; simp only [zc3, zc1, zc2] at h; exact h), (by have h := Y2 3; simp only [zc3, zc1, zc2] at h; exact h), (by have h := Y2 4; simp only [zc3, zc1, zc2] at h; exact h)⟩
    refine hK.out _ _ hF ?_
    clear hK
    try simp only [Act.put, zcY, zcZ, zc0]
    refine Ever.one (i := 5) (by kernel_rfl) rfl (fun J9 hK => ?_)
    go_simp
    go_wp2_with (go_at_call 10; refine (zap x2 _ _ _ hbig2 (by exact hv2.below hY)).mono ?_; rintro e yS14 ⟨s2, sf2, rfl, sr2, sg2, hb⟩)
    replace Y0 := za Y0 hy0 hb
    replace hy0 := zc4 hy0 hb.size
    replace Y2 := za Y2 hy2 hb
    replace hy2 := zc4 hy2 hb.size
    replace sr0 := sr0.below hb
    replace sr1 := sr1.below hb
    replace hE := za hE hEl hb
    replace hEf := fun j => (zj (hb.block _ hEl)).trans (hEf j)
    replace hEl := zc4 hEl hb.size
    replace hW := hW.trans (hb.mono hW.size)
    replace hY := hY.trans (hb.mono hY.size)
    clear hb
    replace hF : (fun U : World => U.cell? ⟨w.heap.size, 0, none⟩ = some (.slice a0A0 x0.syms.length c0A0) ∧ U.cell? ⟨w.heap.size + 1, 0, none⟩ = some (.int .i64 x2.rule) ∧ U.cell? ⟨w.heap.size + 1, 1, none⟩ = some (.int .i64 x2.n) ∧ U.cell? ⟨w.heap.size + 1, 2, none⟩ = some (.string x2.t.name) ∧ U.cell? ⟨w.heap.size + 1, 3, none⟩ = some (.slice a3A2 x2.t.kids.length c3A2) ∧ U.cell? ⟨w.heap.size + 1, 4, none⟩ = some (.slice a4A2 x2.kids.length c4A2)) _ := ⟨(by have h := Y0 0; simp only [zc3, zc1, zc2] at h; exact h), (by have h := Y2 0; simp only [zc3, zc1, zc2] at h; exact h), (by have h := Y2 1; simp only [zc3, zc1, zc2] at h; exact h), (by have h := Y2 2; simp only [zc3, zc1, zc2] at h; exact h), (by have h := Y2 3; simp only [zc3, zc1, zc2] at h; exact h), (by have h := Y2 4; simp only [zc3, zc1, zc2] at h; exact h)⟩
    refine hK.out _ _ hF ?_
    clear hK
    try simp only [Act.put, zcY, zcZ, zc0]
    refine Ever.one (i := 6) (by kernel_rfl) rfl (fun J9 hK => ?_)
    go_simp
    go_wp2_with (go_at_call 7; refine (zX x0 x1 x2 _ _ _ _ _ _ _ (zL hbig1) (by omega) (Wy.thin_of _ x2 (Nat.le_refl _) hbig2) (by exact sr0) (by exact sr1) (by exact sr2)).mono ?_; rintro e yS15 ⟨vS, f_S, rfl, r_S, fr_S, hb⟩)
    have r_S' := r_S
    obtain ⟨a1S, c1S, f1S, a3S, c3S, f3S, rfl, _, _, _, _, _⟩ := Eqn.open r_S'
    have hne_S : ∀ b ∈ f_S, b ≠ EB := fun b hb' => by have := (fr_S.2 b hb').1; omega
    replace fr_S := fr_S.mono (lo' := w3.heap.size) (by have := hW.size; omega)
    replace Y0 := za Y0 hy0 hb
    replace hy0 := zc4 hy0 hb.size
    replace Y2 := za Y2 hy2 hb
    replace hy2 := zc4 hy2 hb.size
    replace hE := za hE hEl hb
    replace hEf := fun j => (zj (hb.block _ hEl)).trans (hEf j)
    replace hEl := zc4 hEl hb.size
    replace hW := hW.trans (hb.mono hW.size)
    replace hY := hY.trans (hb.mono hY.size)
    clear hb
    replace hF : (fun U : World => U.cell? ⟨w.heap.size, 0, none⟩ = some (.slice a0A0 x0.syms.length c0A0) ∧ U.cell? ⟨w.heap.size + 1, 0, none⟩ = some (.int .i64 x2.rule) ∧ U.cell? ⟨w.heap.size + 1, 1, none⟩ = some (.int .i64 x2.n) ∧ U.cell? ⟨w.heap.size + 1, 2, none⟩ = some (.string x2.t.name) ∧ U.cell? ⟨w.heap.size + 1, 3, none⟩ = some (.slice a3A2 x2.t.kids.length c3A2) ∧ U.cell? ⟨w.heap.size + 1, 4, none⟩ = some (.slice a4A2 x2.kids.length c4A2)) _ := ⟨(by have h := Y0 0; simp only [zc3, zc1, zc2] at h; exact h), (by have h := Y2 0; simp only [zc3, zc1, zc2] at h; exact h), (by have h := Y2 1; simp only [zc3, zc1, zc2] at h; exact h), (by have h := Y2 2; simp only [zc3, zc1, zc2] at h; exact h), (by have h := Y2 3; simp only [zc3, zc1, zc2] at h; exact h), (by have h := Y2 4; simp only [zc3, zc1, zc2] at h; exact h)⟩
    refine hK.out _ _ hF ?_
    clear hK
    try simp only [Act.put, zcY, zcZ, zc0]
    refine Ever.take (i := 7) (v := (.tuple #[.agg #[.string ((whyT x0 x1 x2).getD Eqn.zero).a.name, .slice a1S ((whyT x0 x1 x2).getD Eqn.zero).a.kids.length c1S, .string ((whyT x0 x1 x2).getD Eqn.zero).b.name, .slice a3S ((whyT x0 x1 x2).getD Eqn.zero).b.kids.length c3S], .bool ((whyT x0 x1 x2).isSome)])) rfl (by kernel_rfl) (by kernel_rfl) (by kernel_rfl) (fun _ _ _ h => h) (Or.inl ⟨by rfl, fun U hU => ?_⟩) hF ?_
    ·obtain ⟨l0_0F, l2_0F, l2_1F, l2_2F, l2_3F, l2_4F⟩ := hU
     go_simp
    try simp only [Act.put, zcY, zcZ, zc0]
    refine Ever.take (i := 8) (v := (.agg #[.string ((whyT x0 x1 x2).getD Eqn.zero).a.name, .slice a1S ((whyT x0 x1 x2).getD Eqn.zero).a.kids.length c1S, .string ((whyT x0 x1 x2).getD Eqn.zero).b.name, .slice a3S ((whyT x0 x1 x2).getD Eqn.zero).b.kids.length c3S])) rfl (by kernel_rfl) (by kernel_rfl) (by kernel_rfl) (fun _ _ _ h => h) (Or.inl ⟨by rfl, fun U hU => ?_⟩) hF ?_
    ·obtain ⟨l0_0F, l2_0F, l2_1F, l2_2F, l2_3F, l2_4F⟩ := hU
     go_simp
    try simp only [Act.put, zcY, zcZ, zc0]
    refine Ever.take (i := 9) (v := (.bool ((whyT x0 x1 x2).isSome))) rfl (by kernel_rfl) (by kernel_rfl) (by kernel_rfl) (fun _ _ _ h => h) (Or.inl ⟨by rfl, fun U hU => ?_⟩) hF ?_
    ·obtain ⟨l0_0F, l2_0F, l2_1F, l2_2F, l2_3F, l2_4F⟩ := hU
     go_simp
    try simp only [Act.put, zcY, zcZ, zc0]
    have m0 := hE 0; have n0 := hEf 0
    have m1 := hE 1; have n1 := hEf 1
    have m2 := hE 2; have n2 := hEf 2
    have m3 := hE 3; have n3 := hEf 3
    simp only [zc3, zc1, zc2] at m0 m1 m2 m3
    refine Ever.one (i := 11) (by kernel_rfl) rfl (fun J9 hK => ?_)
    go_simp
    have gE := zq (b := EB) [(0, .string ((whyT x0 x1 x2).getD Eqn.zero).a.name), (1, .slice a1S ((whyT x0 x1 x2).getD Eqn.zero).a.kids.length c1S), (2, .string ((whyT x0 x1 x2).getD Eqn.zero).b.name), (3, .slice a3S ((whyT x0 x1 x2).getD Eqn.zero).b.kids.length c3S)] (l := [.string ⟨#[]⟩, .slice none 0 0, .string ⟨#[]⟩, .slice none 0 0]) hE (by simp)
    have gh : ∀ c, c ≠ EB → (zF EB [(0, .string ((whyT x0 x1 x2).getD Eqn.zero).a.name), (1, .slice a1S ((whyT x0 x1 x2).getD Eqn.zero).a.kids.length c1S), (2, .string ((whyT x0 x1 x2).getD Eqn.zero).b.name), (3, .slice a3S ((whyT x0 x1 x2).getD Eqn.zero).b.kids.length c3S)] yS15).heap[c]? = yS15.heap[c]? := fun c hc => zK hc _ _
    have gW := zn (b := EB) hEW [(0, .string ((whyT x0 x1 x2).getD Eqn.zero).a.name), (1, .slice a1S ((whyT x0 x1 x2).getD Eqn.zero).a.kids.length c1S), (2, .string ((whyT x0 x1 x2).getD Eqn.zero).b.name), (3, .slice a3S ((whyT x0 x1 x2).getD Eqn.zero).b.kids.length c3S)] hW
    have gl : EB < (zF EB [(0, .string ((whyT x0 x1 x2).getD Eqn.zero).a.name), (1, .slice a1S ((whyT x0 x1 x2).getD Eqn.zero).a.kids.length c1S), (2, .string ((whyT x0 x1 x2).getD Eqn.zero).b.name), (3, .slice a3S ((whyT x0 x1 x2).getD Eqn.zero).b.kids.length c3S)] yS15).heap.size := zc4 hEl (zn (b := EB) (B := 0) (Nat.zero_le _) [(0, .string ((whyT x0 x1 x2).getD Eqn.zero).a.name), (1, .slice a1S ((whyT x0 x1 x2).getD Eqn.zero).a.kids.length c1S), (2, .string ((whyT x0 x1 x2).getD Eqn.zero).b.name), (3, .slice a3S ((whyT x0 x1 x2).getD Eqn.zero).b.kids.length c3S)] (Below.refl 0 yS15)).size
    simp only [zF, zQ, zcZ, zc0] at gE gh gW gl
    have gs : SameOn f_S _ _ := fun b hb => gh b (hne_S b hb)
    replace r_S := r_S.same _ gs
    replace fr_S := fr_S.same gs
    clear gs
    replace Y0 := zl Y0 (gh _ hne0)
    replace Y2 := zl Y2 (gh _ hne2)
    clear hW hY hE hEf m0 n0 m1 n1 m2 n2 m3 n3
    replace hF : (fun U : World => U.cell? ⟨w.heap.size, 0, none⟩ = some (.slice a0A0 x0.syms.length c0A0) ∧ U.cell? ⟨w.heap.size + 1, 0, none⟩ = some (.int .i64 x2.rule) ∧ U.cell? ⟨w.heap.size + 1, 1, none⟩ = some (.int .i64 x2.n) ∧ U.cell? ⟨w.heap.size + 1, 2, none⟩ = some (.string x2.t.name) ∧ U.cell? ⟨w.heap.size + 1, 3, none⟩ = some (.slice a3A2 x2.t.kids.length c3A2) ∧ U.cell? ⟨w.heap.size + 1, 4, none⟩ = some (.slice a4A2 x2.kids.length c4A2)) _ := ⟨(by have h := Y0 0; simp only [zc3, zc1, zc2] at h; exact h), (by have h := Y2 0; simp only [zc3, zc1, zc2] at h; exact h), (by have h := Y2 1; simp only [zc3, zc1, zc2] at h; exact h), (by have h := Y2 2; simp only [zc3, zc1, zc2] at h; exact h), (by have h := Y2 3; simp only [zc3, zc1, zc2] at h; exact h), (by have h := Y2 4; simp only [zc3, zc1, zc2] at h; exact h)⟩
    refine hK.out _ _ hF ?_
    clear hK
    try simp only [Act.put, zcY, zcZ, zc0]
    refine Ever.one (i := 12) (by kernel_rfl) rfl (fun J9 hK => ?_)
    go_simp
    refine hK.out _ _ hF ?_
    clear hK
    try simp only [Act.put, zcY, zcZ, zc0]
    refine Ever.done (by kernel_rfl) ?_ _
    go_wp2_with fail
    go_meet
    case rel => exact ⟨EB, _, _, _, _, _, rfl, rfl, gE, gl, r_S, fr_S, gW⟩
  ·go_simp
   have hE := zp yS0 #[.string ⟨#[]⟩, .slice none 0 0, .string ⟨#[]⟩, .slice none 0 0] 39
   have hEf := zO yS0 #[.string ⟨#[]⟩, .slice none 0 0, .string ⟨#[]⟩, .slice none 0 0] 39
   have hEl : yS0.heap.size < (yS0.alloc (.cells #[.string ⟨#[]⟩, .slice none 0 0, .string ⟨#[]⟩, .slice none 0 0] 39)).heap.size := by simp
   have hb := zb yS0 (.cells #[.string ⟨#[]⟩, .slice none 0 0, .string ⟨#[]⟩, .slice none 0 0] 39)
   obtain ⟨EB, hEB⟩ : ∃ B, B = yS0.heap.size := ⟨_, rfl⟩
   rw [← hEB] at hE hEf hEl ⊢
   have hEW : w3.heap.size ≤ EB := by have := hW.size; omega
   have hne0 : w.heap.size ≠ EB := by have := hy0; omega
   have hne2 : w.heap.size + 1 ≠ EB := by have := hy2; omega
   clear hEB
   replace Y0 := za Y0 hy0 hb
   replace hy0 := zc4 hy0 hb.size
   replace Y2 := za Y2 hy2 hb
   replace hy2 := zc4 hy2 hb.size
   replace hW := hW.trans (hb.mono hW.size)
   replace hY := hY.trans (hb.mono hY.size)
   clear hb
   generalize yS0.alloc (.cells #[.string ⟨#[]⟩, .slice none 0 0, .string ⟨#[]⟩, .slice none 0 0] 39) = yS2 at *
   replace hF : (fun U : World => U.cell? ⟨w.heap.size, 0, none⟩ = some (.slice a0A0 x0.syms.length c0A0) ∧ U.cell? ⟨w.heap.size + 1, 0, none⟩ = some (.int .i64 x2.rule) ∧ U.cell? ⟨w.heap.size + 1, 1, none⟩ = some (.int .i64 x2.n) ∧ U.cell? ⟨w.heap.size + 1, 2, none⟩ = some (.string x2.t.name) ∧ U.cell? ⟨w.heap.size + 1, 3, none⟩ = some (.slice a3A2 x2.t.kids.length c3A2) ∧ U.cell? ⟨w.heap.size + 1, 4, none⟩ = some (.slice a4A2 x2.kids.length c4A2)) _ := ⟨(by have h := Y0 0; simp only [zc3, zc1, zc2] at h; exact h), (by have h := Y2 0; simp only [zc3, zc1, zc2] at h; exact h), (by have h := Y2 1; simp only [zc3, zc1, zc2] at h; exact h), (by have h := Y2 2; simp only [zc3, zc1, zc2] at h; exact h), (by have h := Y2 3; simp only [zc3, zc1, zc2] at h; exact h), (by have h := Y2 4; simp only [zc3, zc1, zc2] at h; exact h)⟩
   refine hK.out _ _ hF ?_
   clear hK
   try simp only [Act.put, zcY, zcZ, zc0]
   refine Ever.one (i := 1) (by kernel_rfl) rfl (fun J9 hK => ?_)
   go_simp
   go_wp2_with (go_at_call 8; refine (za4 x0 _ _ _ hbig0 (by exact hv0.below hY)).mono ?_; rintro e yS16 ⟨s0, sf0, rfl, sr0, sg0, hb⟩)
   replace Y0 := za Y0 hy0 hb
   replace hy0 := zc4 hy0 hb.size
   replace Y2 := za Y2 hy2 hb
   replace hy2 := zc4 hy2 hb.size
   replace hE := za hE hEl hb
   replace hEf := fun j => (zj (hb.block _ hEl)).trans (hEf j)
   replace hEl := zc4 hEl hb.size
   replace hW := hW.trans (hb.mono hW.size)
   replace hY := hY.trans (hb.mono hY.size)
   clear hb
   replace hF : (fun U : World => U.cell? ⟨w.heap.size, 0, none⟩ = some (.slice a0A0 x0.syms.length c0A0) ∧ U.cell? ⟨w.heap.size + 1, 0, none⟩ = some (.int .i64 x2.rule) ∧ U.cell? ⟨w.heap.size + 1, 1, none⟩ = some (.int .i64 x2.n) ∧ U.cell? ⟨w.heap.size + 1, 2, none⟩ = some (.string x2.t.name) ∧ U.cell? ⟨w.heap.size + 1, 3, none⟩ = some (.slice a3A2 x2.t.kids.length c3A2) ∧ U.cell? ⟨w.heap.size + 1, 4, none⟩ = some (.slice a4A2 x2.kids.length c4A2)) _ := ⟨(by have h := Y0 0; simp only [zc3, zc1, zc2] at h; exact h), (by have h := Y2 0; simp only [zc3, zc1, zc2] at h; exact h), (by have h := Y2 1; simp only [zc3, zc1, zc2] at h; exact h), (by have h := Y2 2; simp only [zc3, zc1, zc2] at h; exact h), (by have h := Y2 3; simp only [zc3, zc1, zc2] at h; exact h), (by have h := Y2 4; simp only [zc3, zc1, zc2] at h; exact h)⟩
   refine hK.out _ _ hF ?_
   clear hK
   try simp only [Act.put, zcY, zcZ, zc0]
   refine Ever.one (i := 3) (by kernel_rfl) rfl (fun J9 hK => ?_)
   go_simp
   go_wp2_with (go_at_call 9; refine (zaA x1 _ _ _ hbig1 (by exact hv1.below hY)).mono ?_; rintro e yS17 ⟨s1, sf1, rfl, sr1, sg1, hb⟩)
   replace Y0 := za Y0 hy0 hb
   replace hy0 := zc4 hy0 hb.size
   replace Y2 := za Y2 hy2 hb
   replace hy2 := zc4 hy2 hb.size
   replace sr0 := sr0.below hb
   replace hE := za hE hEl hb
   replace hEf := fun j => (zj (hb.block _ hEl)).trans (hEf j)
   replace hEl := zc4 hEl hb.size
   replace hW := hW.trans (hb.mono hW.size)
   replace hY := hY.trans (hb.mono hY.size)
   clear hb
   replace hF : (fun U : World => U.cell? ⟨w.heap.size, 0, none⟩ = some (.slice a0A0 x0.syms.length c0A0) ∧ U.cell? ⟨w.heap.size + 1, 0, none⟩ = some (.int .i64 x2.rule) ∧ U.cell? ⟨w.heap.size + 1, 1, none⟩ = some (.int .i64 x2.n) ∧ U.cell? ⟨w.heap.size + 1, 2, none⟩ = some (.string x2.t.name) ∧ U.cell? ⟨w.heap.size + 1, 3, none⟩ = some (.slice a3A2 x2.t.kids.length c3A2) ∧ U.cell? ⟨w.heap.size + 1, 4, none⟩ = some (.slice a4A2 x2.kids.length c4A2)) _ := ⟨(by have h := Y0 0; simp only [zc3, zc1, zc2] at h; exact h), (by have h := Y2 0; simp only [zc3, zc1, zc2] at h; exact h), (by have h := Y2 1; simp only [zc3, zc1, zc2] at h; exact h), (by have h := Y2 2; simp only [zc3, zc1, zc2] at h; exact h), (by have h := Y2 3; simp only [zc3, zc1, zc2] at h; exact h), (by have h := Y2 4; simp only [zc3, zc1, zc2] at h; exact h)⟩
   refine hK.out _ _ hF ?_
   clear hK
   try simp only [Act.put, zcY, zcZ, zc0]
   refine Ever.one (i := 5) (by kernel_rfl) rfl (fun J9 hK => ?_)
   go_simp
   go_wp2_with (go_at_call 10; refine (zap x2 _ _ _ hbig2 (by exact hv2.below hY)).mono ?_; rintro e yS18 ⟨s2, sf2, rfl, sr2, sg2, hb⟩)
   replace Y0 := za Y0 hy0 hb
   replace hy0 := zc4 hy0 hb.size
   replace Y2 := za Y2 hy2 hb
   replace hy2 := zc4 hy2 hb.size
   replace sr0 := sr0.below hb
   replace sr1 := sr1.below hb
   replace hE := za hE hEl hb
   replace hEf := fun j => (zj (hb.block _ hEl)).trans (hEf j)
   replace hEl := zc4 hEl hb.size
   replace hW := hW.trans (hb.mono hW.size)
   replace hY := hY.trans (hb.mono hY.size)
   clear hb
   replace hF : (fun U : World => U.cell? ⟨w.heap.size, 0, none⟩ = some (.slice a0A0 x0.syms.length c0A0) ∧ U.cell? ⟨w.heap.size + 1, 0, none⟩ = some (.int .i64 x2.rule) ∧ U.cell? ⟨w.heap.size + 1, 1, none⟩ = some (.int .i64 x2.n) ∧ U.cell? ⟨w.heap.size + 1, 2, none⟩ = some (.string x2.t.name) ∧ U.cell? ⟨w.heap.size + 1, 3, none⟩ = some (.slice a3A2 x2.t.kids.length c3A2) ∧ U.cell? ⟨w.heap.size + 1, 4, none⟩ = some (.slice a4A2 x2.kids.length c4A2)) _ := ⟨(by have h := Y0 0; simp only [zc3, zc1, zc2] at h; exact h), (by have h := Y2 0; simp only [zc3, zc1, zc2] at h; exact h), (by have h := Y2 1; simp only [zc3, zc1, zc2] at h; exact h), (by have h := Y2 2; simp only [zc3, zc1, zc2] at h; exact h), (by have h := Y2 3; simp only [zc3, zc1, zc2] at h; exact h), (by have h := Y2 4; simp only [zc3, zc1, zc2] at h; exact h)⟩
   refine hK.out _ _ hF ?_
   clear hK
   try simp only [Act.put, zcY, zcZ, zc0]
   refine Ever.one (i := 6) (by kernel_rfl) rfl (fun J9 hK => ?_)
   go_simp
   go_wp2_with (go_at_call 7; refine (zX x0 x1 x2 _ _ _ _ _ _ _ (zL hbig1) (by omega) (Wy.thin_of _ x2 (Nat.le_refl _) hbig2) (by exact sr0) (by exact sr1) (by exact sr2)).mono ?_; rintro e yS19 ⟨vS, f_S, rfl, r_S, fr_S, hb⟩)
   have r_S' := r_S
   obtain ⟨a1S, c1S, f1S, a3S, c3S, f3S, rfl, _, _, _, _, _⟩ := Eqn.open r_S'
   have hne_S : ∀ b ∈ f_S, b ≠ EB := fun b hb' => by have := (fr_S.2 b hb').1; omega
   replace fr_S := fr_S.mono (lo' := w3.heap.size) (by have := hW.size; omega)
   replace Y0 := za Y0 hy0 hb
   replace hy0 := zc4 hy0 hb.size
   replace Y2 := za Y2 hy2 hb
   replace hy2 := zc4 hy2 hb.size
   replace hE := za hE hEl hb
   replace hEf := fun j => (zj (hb.block _ hEl)).trans (hEf j)
   replace hEl := zc4 hEl hb.size
   replace hW := hW.trans (hb.mono hW.size)
   replace hY := hY.trans (hb.mono hY.size)
   clear hb
   replace hF : (fun U : World => U.cell? ⟨w.heap.size, 0, none⟩ = some (.slice a0A0 x0.syms.length c0A0) ∧ U.cell? ⟨w.heap.size + 1, 0, none⟩ = some (.int .i64 x2.rule) ∧ U.cell? ⟨w.heap.size + 1, 1, none⟩ = some (.int .i64 x2.n) ∧ U.cell? ⟨w.heap.size + 1, 2, none⟩ = some (.string x2.t.name) ∧ U.cell? ⟨w.heap.size + 1, 3, none⟩ = some (.slice a3A2 x2.t.kids.length c3A2) ∧ U.cell? ⟨w.heap.size + 1, 4, none⟩ = some (.slice a4A2 x2.kids.length c4A2)) _ := ⟨(by have h := Y0 0; simp only [zc3, zc1, zc2] at h; exact h), (by have h := Y2 0; simp only [zc3, zc1, zc2] at h; exact h), (by have h := Y2 1; simp only [zc3, zc1, zc2] at h; exact h), (by have h := Y2 2; simp only [zc3, zc1, zc2] at h; exact h), (by have h := Y2 3; simp only [zc3, zc1, zc2] at h; exact h), (by have h := Y2 4; simp only [zc3, zc1, zc2] at h; exact h)⟩
   refine hK.out _ _ hF ?_
   clear hK
   try simp only [Act.put, zcY, zcZ, zc0]
   refine Ever.take (i := 7) (v := (.tuple #[.agg #[.string ((whyT x0 x1 x2).getD Eqn.zero).a.name, .slice a1S ((whyT x0 x1 x2).getD Eqn.zero).a.kids.length c1S, .string ((whyT x0 x1 x2).getD Eqn.zero).b.name, .slice a3S ((whyT x0 x1 x2).getD Eqn.zero).b.kids.length c3S], .bool ((whyT x0 x1 x2).isSome)])) rfl (by kernel_rfl) (by kernel_rfl) (by kernel_rfl) (fun _ _ _ h => h) (Or.inl ⟨by rfl, fun U hU => ?_⟩) hF ?_
   ·obtain ⟨l0_0F, l2_0F, l2_1F, l2_2F, l2_3F, l2_4F⟩ := hU
    go_simp
   try simp only [Act.put, zcY, zcZ, zc0]
   refine Ever.take (i := 8) (v := (.agg #[.string ((whyT x0 x1 x2).getD Eqn.zero).a.name, .slice a1S ((whyT x0 x1 x2).getD Eqn.zero).a.kids.length c1S, .string ((whyT x0 x1 x2).getD Eqn.zero).b.name, .slice a3S ((whyT x0 x1 x2).getD Eqn.zero).b.kids.length c3S])) rfl (by kernel_rfl) (by kernel_rfl) (by kernel_rfl) (fun _ _ _ h => h) (Or.inl ⟨by rfl, fun U hU => ?_⟩) hF ?_
   ·obtain ⟨l0_0F, l2_0F, l2_1F, l2_2F, l2_3F, l2_4F⟩ := hU
    go_simp
   try simp only [Act.put, zcY, zcZ, zc0]
   refine Ever.take (i := 9) (v := (.bool ((whyT x0 x1 x2).isSome))) rfl (by kernel_rfl) (by kernel_rfl) (by kernel_rfl) (fun _ _ _ h => h) (Or.inl ⟨by rfl, fun U hU => ?_⟩) hF ?_
   ·obtain ⟨l0_0F, l2_0F, l2_1F, l2_2F, l2_3F, l2_4F⟩ := hU
    go_simp
   try simp only [Act.put, zcY, zcZ, zc0]
   have m0 := hE 0; have n0 := hEf 0
   have m1 := hE 1; have n1 := hEf 1
   have m2 := hE 2; have n2 := hEf 2
   have m3 := hE 3; have n3 := hEf 3
   simp only [zc3, zc1, zc2] at m0 m1 m2 m3
   refine Ever.one (i := 11) (by kernel_rfl) rfl (fun J9 hK => ?_)
   go_simp
   have gE := zq (b := EB) [(0, .string ((whyT x0 x1 x2).getD Eqn.zero).a.name), (1, .slice a1S ((whyT x0 x1 x2).getD Eqn.zero).a.kids.length c1S), (2, .string ((whyT x0 x1 x2).getD Eqn.zero).b.name), (3, .slice a3S ((whyT x0 x1 x2).getD Eqn.zero).b.kids.length c3S)] (l := [.string ⟨#[]⟩, .slice none 0 0, .string ⟨#[]⟩, .slice none 0 0]) hE (by simp)
   have gh : ∀ c, c ≠ EB → (zF EB [(0, .string ((whyT x0 x1 x2).getD Eqn.zero).a.name), (1, .slice a1S ((whyT x0 x1 x2).getD Eqn.zero).a.kids.length c1S), (2, .string ((whyT x0 x1 x2).getD Eqn.zero).b.name), (3, .slice a3S ((whyT x0 x1 x2).getD Eqn.zero).b.kids.length c3S)] yS19).heap[c]? = yS19.heap[c]? := fun c hc => zK hc _ _
   have gW := zn (b := EB) hEW [(0, .string ((whyT x0 x1 x2).getD Eqn.zero).a.name), (1, .slice a1S ((whyT x0 x1 x2).getD Eqn.zero).a.kids.length c1S), (2, .string ((whyT x0 x1 x2).getD Eqn.zero).b.name), (3, .slice a3S ((whyT x0 x1 x2).getD Eqn.zero).b.kids.length c3S)] hW
   have gl : EB < (zF EB [(0, .string ((whyT x0 x1 x2).getD Eqn.zero).a.name), (1, .slice a1S ((whyT x0 x1 x2).getD Eqn.zero).a.kids.length c1S), (2, .string ((whyT x0 x1 x2).getD Eqn.zero).b.name), (3, .slice a3S ((whyT x0 x1 x2).getD Eqn.zero).b.kids.length c3S)] yS19).heap.size := zc4 hEl (zn (b := EB) (B := 0) (Nat.zero_le _) [(0, .string ((whyT x0 x1 x2).getD Eqn.zero).a.name), (1, .slice a1S ((whyT x0 x1 x2).getD Eqn.zero).a.kids.length c1S), (2, .string ((whyT x0 x1 x2).getD Eqn.zero).b.name), (3, .slice a3S ((whyT x0 x1 x2).getD Eqn.zero).b.kids.length c3S)] (Below.refl 0 yS19)).size
   simp only [zF, zQ, zcZ, zc0] at gE gh gW gl
   have gs : SameOn f_S _ _ := fun b hb => gh b (hne_S b hb)
   replace r_S := r_S.same _ gs
   replace fr_S := fr_S.same gs
   clear gs
   replace Y0 := zl Y0 (gh _ hne0)
   replace Y2 := zl Y2 (gh _ hne2)
   clear hW hY hE hEf m0 n0 m1 n1 m2 n2 m3 n3
   replace hF : (fun U : World => U.cell? ⟨w.heap.size, 0, none⟩ = some (.slice a0A0 x0.syms.length c0A0) ∧ U.cell? ⟨w.heap.size + 1, 0, none⟩ = some (.int .i64 x2.rule) ∧ U.cell? ⟨w.heap.size + 1, 1, none⟩ = some (.int .i64 x2.n) ∧ U.cell? ⟨w.heap.size + 1, 2, none⟩ = some (.string x2.t.name) ∧ U.cell? ⟨w.heap.size + 1, 3, none⟩ = some (.slice a3A2 x2.t.kids.length c3A2) ∧ U.cell? ⟨w.heap.size + 1, 4, none⟩ = some (.slice a4A2 x2.kids.length c4A2)) _ := ⟨(by have h := Y0 0; simp only [zc3, zc1, zc2] at h; exact h), (by have h := Y2 0; simp only [zc3, zc1, zc2] at h; exact h), (by have h := Y2 1; simp only [zc3, zc1, zc2] at h; exact h), (by have h := Y2 2; simp only [zc3, zc1, zc2] at h; exact h), (by have h := Y2 3; simp only [zc3, zc1, zc2] at h; exact h), (by have h := Y2 4; simp only [zc3, zc1, zc2] at h; exact h)⟩
   refine hK.out _ _ hF ?_
   clear hK
   try simp only [Act.put, zcY, zcZ, zc0]
   refine Ever.one (i := 12) (by kernel_rfl) rfl (fun J9 hK => ?_)
   go_simp
   refine hK.out _ _ hF ?_
   clear hK
   try simp only [Act.put, zcY, zcZ, zc0]
   refine Ever.done (by kernel_rfl) ?_ _
   go_wp2_with fail
   go_meet
   case rel => exact ⟨EB, _, _, _, _, _, rfl, rfl, gE, gl, r_S, fr_S, gW⟩
 case rest =>
 obtain ⟨EBS, a1S, c1S, a3S, c3S, f_S, rfl, rfl, ZS, hlZS, r_S, fr_S, hb⟩ := hcut
 obtain ⟨wxS, rfl⟩ : ∃ x, x = wc := ⟨_, rfl⟩
 have hi_S : ∀ b ∈ f_S, b < wxS.heap.size := r_S.lt _
 
 replace X0 := za X0 hlX0 hb
 replace X2 := za X2 hlX2 hb
 replace hB := hB.trans (hb.mono hz0)
 have hzn := hb.size
 replace hlX0 := zc4 hlX0 hzn
 replace hlX2 := zc4 hlX2 hzn
 replace hz0 := Nat.le_trans hz0 hzn
 clear hb hzn
 have hh_S : wxS.heap.size ≤ wxS.heap.size := Nat.le_refl _
 go_wp2_with fail
 have o_X0_T0 := hlX0
 have o_X2_T0 := hlX2
 have o_ZS_T0 := hlZS
 have o_S_T0 := hh_S
 have base_T0 := hz0
 refine (za4 x0 _ _ _ hbig0 (by exact hv0.below hB)).mono ?_
 rintro e wt0 ⟨t0, f_T0, rfl, r_T0, fr_T0, hb⟩
 have hi_T0 : ∀ b ∈ f_T0, b < wt0.heap.size := r_T0.lt
 replace X0 := za X0 hlX0 hb
 replace X2 := za X2 hlX2 hb
 replace ZS := za ZS hlZS hb
 replace r_S := r_S.below hb
 replace fr_S := fr_S.below hb
 replace hB := hB.trans (hb.mono hz0)
 have hzn := hb.size
 replace hlX0 := zc4 hlX0 hzn
 replace hlX2 := zc4 hlX2 hzn
 replace hlZS := zc4 hlZS hzn
 replace hh_S := Nat.le_trans hh_S hzn
 replace hz0 := Nat.le_trans hz0 hzn
 clear hb hzn
 have hh_T0 : wt0.heap.size ≤ wt0.heap.size := Nat.le_refl _
 have r_T0' := r_T0
 obtain ⟨a0T0, c0T0, f0T0, rfl, _, _⟩ := Sg.open r_T0'
 have ZT0 := zp wt0 #[.slice a0T0 x0.syms.length c0T0] 44
 have o_S_ZT0 := hh_S
 have o_T0_ZT0 := hh_T0
 have hb := zb wt0 (.cells #[.slice a0T0 x0.syms.length c0T0] 44)
 have hzz : (wt0.alloc (.cells #[.slice a0T0 x0.syms.length c0T0] 44)).heap.size = wt0.heap.size + 1 := by simp
 replace X0 := za X0 hlX0 hb
 replace X2 := za X2 hlX2 hb
 replace ZS := za ZS hlZS hb
 replace r_S := r_S.below hb
 replace fr_S := fr_S.below hb
 replace r_T0 := r_T0.below hb
 replace fr_T0 := fr_T0.below hb
 replace hB := hB.trans (hb.mono hz0)
 have hzn := hb.size
 replace hlX0 := zc4 hlX0 hzn
 replace hlX2 := zc4 hlX2 hzn
 replace hlZS := zc4 hlZS hzn
 replace hh_S := Nat.le_trans hh_S hzn
 replace hh_T0 := Nat.le_trans hh_T0 hzn
 replace hz0 := Nat.le_trans hz0 hzn
 clear hb hzn
 have hlZT0 : wt0.heap.size < (wt0.alloc (.cells #[.slice a0T0 x0.syms.length c0T0] 44)).heap.size := by simp
 go_wp2_with fail
 have o_X0_T1 := hlX0
 have o_X2_T1 := hlX2
 have o_ZS_T1 := hlZS
 have o_ZT0_T1 := hlZT0
 have o_S_T1 := hh_S
 have o_T0_T1 := hh_T0
 have base_T1 := hz0
 refine (zaA x1 _ _ _ hbig1 (by exact hv1.below hB)).mono ?_
 rintro e wt1 ⟨t1, f_T1, rfl, r_T1, fr_T1, hb⟩
 have hi_T1 : ∀ b ∈ f_T1, b < wt1.heap.size := r_T1.lt _
 replace X0 := za X0 hlX0 hb
 replace X2 := za X2 hlX2 hb
 replace ZS := za ZS hlZS hb
 replace ZT0 := za ZT0 hlZT0 hb
 replace r_S := r_S.below hb
 replace fr_S := fr_S.below hb
 replace r_T0 := r_T0.below hb
 replace fr_T0 := fr_T0.below hb
 replace hB := hB.trans (hb.mono hz0)
 have hzn := hb.size
 replace hlX0 := zc4 hlX0 hzn
 replace hlX2 := zc4 hlX2 hzn
 replace hlZS := zc4 hlZS hzn
 replace hlZT0 := zc4 hlZT0 hzn
 replace hh_S := Nat.le_trans hh_S hzn
 replace hh_T0 := Nat.le_trans hh_T0 hzn
 replace hz0 := Nat.le_trans hz0 hzn
 clear hb hzn
 have hh_T1 : wt1.heap.size ≤ wt1.heap.size := Nat.le_refl _
 go_wp2_with fail
 have o_X0_T2 := hlX0
 have o_X2_T2 := hlX2
 have o_ZS_T2 := hlZS
 have o_ZT0_T2 := hlZT0
 have o_S_T2 := hh_S
 have o_T0_T2 := hh_T0
 have o_T1_T2 := hh_T1
 have base_T2 := hz0
 refine (zap x2 _ _ _ hbig2 (by exact hv2.below hB)).mono ?_
 rintro e wt2 ⟨t2, f_T2, rfl, r_T2, fr_T2, hb⟩
 have hi_T2 : ∀ b ∈ f_T2, b < wt2.heap.size := r_T2.lt
 replace X0 := za X0 hlX0 hb
 replace X2 := za X2 hlX2 hb
 replace ZS := za ZS hlZS hb
 replace ZT0 := za ZT0 hlZT0 hb
 replace r_S := r_S.below hb
 replace fr_S := fr_S.below hb
 replace r_T0 := r_T0.below hb
 replace fr_T0 := fr_T0.below hb
 replace r_T1 := r_T1.below hb
 replace fr_T1 := fr_T1.below hb
 replace hB := hB.trans (hb.mono hz0)
 have hzn := hb.size
 replace hlX0 := zc4 hlX0 hzn
 replace hlX2 := zc4 hlX2 hzn
 replace hlZS := zc4 hlZS hzn
 replace hlZT0 := zc4 hlZT0 hzn
 replace hh_S := Nat.le_trans hh_S hzn
 replace hh_T0 := Nat.le_trans hh_T0 hzn
 replace hh_T1 := Nat.le_trans hh_T1 hzn
 replace hz0 := Nat.le_trans hz0 hzn
 clear hb hzn
 have hh_T2 : wt2.heap.size ≤ wt2.heap.size := Nat.le_refl _
 have r_T2' := r_T2
 obtain ⟨a3T2, c3T2, f3T2, a4T2, c4T2, f4T2, rfl, _, _, _, _, _, _⟩ := Wy.open r_T2'
 have ZT2 := zp wt2 #[.int .i64 x2.rule, .int .i64 x2.n, .string x2.t.name, .slice a3T2 x2.t.kids.length c3T2, .slice a4T2 x2.kids.length c4T2] 50
 have o_S_ZT2 := hh_S
 have o_T0_ZT2 := hh_T0
 have o_T1_ZT2 := hh_T1
 have o_T2_ZT2 := hh_T2
 have hb := zb wt2 (.cells #[.int .i64 x2.rule, .int .i64 x2.n, .string x2.t.name, .slice a3T2 x2.t.kids.length c3T2, .slice a4T2 x2.kids.length c4T2] 50)
 have hzz : (wt2.alloc (.cells #[.int .i64 x2.rule, .int .i64 x2.n, .string x2.t.name, .slice a3T2 x2.t.kids.length c3T2, .slice a4T2 x2.kids.length c4T2] 50)).heap.size = wt2.heap.size + 1 := by simp
 replace X0 := za X0 hlX0 hb
 replace X2 := za X2 hlX2 hb
 replace ZS := za ZS hlZS hb
 replace ZT0 := za ZT0 hlZT0 hb
 replace r_S := r_S.below hb
 replace fr_S := fr_S.below hb
 replace r_T0 := r_T0.below hb
 replace fr_T0 := fr_T0.below hb
 replace r_T1 := r_T1.below hb
 replace fr_T1 := fr_T1.below hb
 replace r_T2 := r_T2.below hb
 replace fr_T2 := fr_T2.below hb
 replace hB := hB.trans (hb.mono hz0)
 have hzn := hb.size
 replace hlX0 := zc4 hlX0 hzn
 replace hlX2 := zc4 hlX2 hzn
 replace hlZS := zc4 hlZS hzn
 replace hlZT0 := zc4 hlZT0 hzn
 replace hh_S := Nat.le_trans hh_S hzn
 replace hh_T0 := Nat.le_trans hh_T0 hzn
 replace hh_T1 := Nat.le_trans hh_T1 hzn
 replace hh_T2 := Nat.le_trans hh_T2 hzn
 replace hz0 := Nat.le_trans hz0 hzn
 clear hb hzn
 have hlZT2 : wt2.heap.size < (wt2.alloc (.cells #[.int .i64 x2.rule, .int .i64 x2.n, .string x2.t.name, .slice a3T2 x2.t.kids.length c3T2, .slice a4T2 x2.kids.length c4T2] 50)).heap.size := by simp
 go_wp2_with fail
 have o_X0_G := hlX0
 have o_X2_G := hlX2
 have o_ZS_G := hlZS
 have o_ZT0_G := hlZT0
 have o_ZT2_G := hlZT2
 have o_S_G := hh_S
 have o_T0_G := hh_T0
 have o_T1_G := hh_T1
 have o_T2_G := hh_T2
 have base_G := hz0
 refine (zU x0 x1 x2 _ _ _ _ _ _ _ (zL hbig1) (by omega) (Wy.thin_of _ x2 (Nat.le_refl _) hbig2) (by exact r_T0) (by exact r_T1) (by exact r_T2)).mono ?_
 rintro e wG ⟨vG, f_G, rfl, r_G, fr_G, hb⟩
 have hi_G : ∀ b ∈ f_G, b < wG.heap.size := r_G.lt
 replace X0 := za X0 hlX0 hb
 replace X2 := za X2 hlX2 hb
 replace ZS := za ZS hlZS hb
 replace ZT0 := za ZT0 hlZT0 hb
 replace ZT2 := za ZT2 hlZT2 hb
 replace r_S := r_S.below hb
 replace fr_S := fr_S.below hb
 replace r_T0 := r_T0.below hb
 replace fr_T0 := fr_T0.below hb
 replace r_T1 := r_T1.below hb
 replace fr_T1 := fr_T1.below hb
 replace r_T2 := r_T2.below hb
 replace fr_T2 := fr_T2.below hb
 replace hB := hB.trans (hb.mono hz0)
 have hzn := hb.size
 replace hlX0 := zc4 hlX0 hzn
 replace hlX2 := zc4 hlX2 hzn
 replace hlZS := zc4 hlZS hzn
 replace hlZT0 := zc4 hlZT0 hzn
 replace hlZT2 := zc4 hlZT2 hzn
 replace hh_S := Nat.le_trans hh_S hzn
 replace hh_T0 := Nat.le_trans hh_T0 hzn
 replace hh_T1 := Nat.le_trans hh_T1 hzn
 replace hh_T2 := Nat.le_trans hh_T2 hzn
 replace hz0 := Nat.le_trans hz0 hzn
 clear hb hzn
 have hh_G : wG.heap.size ≤ wG.heap.size := Nat.le_refl _
 have r_G' := r_G
 obtain ⟨a1G, c1G, f1G, a3G, c3G, f3G, rfl, _, _, _, _, _⟩ := Eqn.open r_G'
 have ZG := zp wG #[.string ((whyT x0 x1 x2).getD Eqn.zero).a.name, .slice a1G ((whyT x0 x1 x2).getD Eqn.zero).a.kids.length c1G, .string ((whyT x0 x1 x2).getD Eqn.zero).b.name, .slice a3G ((whyT x0 x1 x2).getD Eqn.zero).b.kids.length c3G] 39
 have o_S_ZG := hh_S
 have o_T0_ZG := hh_T0
 have o_T1_ZG := hh_T1
 have o_T2_ZG := hh_T2
 have o_G_ZG := hh_G
 have hb := zb wG (.cells #[.string ((whyT x0 x1 x2).getD Eqn.zero).a.name, .slice a1G ((whyT x0 x1 x2).getD Eqn.zero).a.kids.length c1G, .string ((whyT x0 x1 x2).getD Eqn.zero).b.name, .slice a3G ((whyT x0 x1 x2).getD Eqn.zero).b.kids.length c3G] 39)
 have hzz : (wG.alloc (.cells #[.string ((whyT x0 x1 x2).getD Eqn.zero).a.name, .slice a1G ((whyT x0 x1 x2).getD Eqn.zero).a.kids.length c1G, .string ((whyT x0 x1 x2).getD Eqn.zero).b.name, .slice a3G ((whyT x0 x1 x2).getD Eqn.zero).b.kids.length c3G] 39)).heap.size = wG.heap.size + 1 := by simp
 replace X0 := za X0 hlX0 hb
 replace X2 := za X2 hlX2 hb
 replace ZS := za ZS hlZS hb
 replace ZT0 := za ZT0 hlZT0 hb
 replace ZT2 := za ZT2 hlZT2 hb
 replace r_S := r_S.below hb
 replace fr_S := fr_S.below hb
 replace r_T0 := r_T0.below hb
 replace fr_T0 := fr_T0.below hb
 replace r_T1 := r_T1.below hb
 replace fr_T1 := fr_T1.below hb
 replace r_T2 := r_T2.below hb
 replace fr_T2 := fr_T2.below hb
 replace r_G := r_G.below hb
 replace fr_G := fr_G.below hb
 replace hB := hB.trans (hb.mono hz0)
 have hzn := hb.size
 replace hlX0 := zc4 hlX0 hzn
 replace hlX2 := zc4 hlX2 hzn
 replace hlZS := zc4 hlZS hzn
 replace hlZT0 := zc4 hlZT0 hzn
 replace hlZT2 := zc4 hlZT2 hzn
 replace hh_S := Nat.le_trans hh_S hzn
 replace hh_T0 := Nat.le_trans hh_T0 hzn
 replace hh_T1 := Nat.le_trans hh_T1 hzn
 replace hh_T2 := Nat.le_trans hh_T2 hzn
 replace hh_G := Nat.le_trans hh_G hzn
 replace hz0 := Nat.le_trans hz0 hzn
 clear hb hzn
 have hlZG : wG.heap.size < (wG.alloc (.cells #[.string ((whyT x0 x1 x2).getD Eqn.zero).a.name, .slice a1G ((whyT x0 x1 x2).getD Eqn.zero).a.kids.length c1G, .string ((whyT x0 x1 x2).getD Eqn.zero).b.name, .slice a3G ((whyT x0 x1 x2).getD Eqn.zero).b.kids.length c3G] 39)).heap.size := by simp
 go_wp2_with fail
 refine (zcF ((whyT x0 x1 x2).getD Eqn.zero) _ _ _ _ _ (by exact r_G) (by exact r_S)).mono ?_
 rintro e we1 ⟨rfl, hb⟩
 replace X0 := za X0 hlX0 hb
 replace X2 := za X2 hlX2 hb
 replace ZS := za ZS hlZS hb
 replace ZT0 := za ZT0 hlZT0 hb
 replace ZT2 := za ZT2 hlZT2 hb
 replace ZG := za ZG hlZG hb
 replace r_S := r_S.below hb
 replace fr_S := fr_S.below hb
 replace r_T0 := r_T0.below hb
 replace fr_T0 := fr_T0.below hb
 replace r_T1 := r_T1.below hb
 replace fr_T1 := fr_T1.below hb
 replace r_T2 := r_T2.below hb
 replace fr_T2 := fr_T2.below hb
 replace r_G := r_G.below hb
 replace fr_G := fr_G.below hb
 replace hB := hB.trans (hb.mono hz0)
 have hzn := hb.size
 replace hlX0 := zc4 hlX0 hzn
 replace hlX2 := zc4 hlX2 hzn
 replace hlZS := zc4 hlZS hzn
 replace hlZT0 := zc4 hlZT0 hzn
 replace hlZT2 := zc4 hlZT2 hzn
 replace hlZG := zc4 hlZG hzn
 replace hh_S := Nat.le_trans hh_S hzn
 replace hh_T0 := Nat.le_trans hh_T0 hzn
 replace hh_T1 := Nat.le_trans hh_T1 hzn
 replace hh_T2 := Nat.le_trans hh_T2 hzn
 replace hh_G := Nat.le_trans hh_G hzn
 replace hz0 := Nat.le_trans hz0 hzn
 clear hb hzn
 go_wp2_with fail
 have C0_0 := X0 0
 have C1_0 := X2 0
 have C1_1 := X2 1
 have C1_2 := X2 2
 have C1_3 := X2 3
 have C1_4 := X2 4
 have C2_0 := ZS 0
 have C2_1 := ZS 1
 have C2_2 := ZS 2
 have C2_3 := ZS 3
 have C3_0 := ZT0 0
 have C4_0 := ZT2 0
 have C4_1 := ZT2 1
 have C4_2 := ZT2 2
 have C4_3 := ZT2 3
 have C4_4 := ZT2 4
 have C5_0 := ZG 0
 have C5_1 := ZG 1
 have C5_2 := ZG 2
 have C5_3 := ZG 3
 simp only [zc3, zc1, zc2] at C0_0 C1_0 C1_1 C1_2 C1_3 C1_4 C2_0 C2_1 C2_2 C2_3 C3_0 C4_0 C4_1 C4_2 C4_3 C4_4 C5_0 C5_1 C5_2 C5_3
 go_region_held3 (fun W => W.cell? ⟨w.heap.size, 0, none⟩ = some (.slice a0A0 x0.syms.length c0A0) ∧ W.cell? ⟨w.heap.size + 1, 0, none⟩ = some (.int .i64 x2.rule) ∧ W.cell? ⟨w.heap.size + 1, 1, none⟩ = some (.int .i64 x2.n) ∧ W.cell? ⟨w.heap.size + 1, 2, none⟩ = some (.string x2.t.name) ∧ W.cell? ⟨w.heap.size + 1, 3, none⟩ = some (.slice a3A2 x2.t.kids.length c3A2) ∧ W.cell? ⟨w.heap.size + 1, 4, none⟩ = some (.slice a4A2 x2.kids.length c4A2) ∧ W.cell? ⟨EBS, 0, none⟩ = some (.string ((whyT x0 x1 x2).getD Eqn.zero).a.name) ∧ W.cell? ⟨EBS, 1, none⟩ = some (.slice a1S ((whyT x0 x1 x2).getD Eqn.zero).a.kids.length c1S) ∧ W.cell? ⟨EBS, 2, none⟩ = some (.string ((whyT x0 x1 x2).getD Eqn.zero).b.name) ∧ W.cell? ⟨EBS, 3, none⟩ = some (.slice a3S ((whyT x0 x1 x2).getD Eqn.zero).b.kids.length c3S) ∧ W.cell? ⟨wt0.heap.size, 0, none⟩ = some (.slice a0T0 x0.syms.length c0T0) ∧ W.cell? ⟨wt2.heap.size, 0, none⟩ = some (.int .i64 x2.rule) ∧ W.cell? ⟨wt2.heap.size, 1, none⟩ = some (.int .i64 x2.n) ∧ W.cell? ⟨wt2.heap.size, 2, none⟩ = some (.string x2.t.name) ∧ W.cell? ⟨wt2.heap.size, 3, none⟩ = some (.slice a3T2 x2.t.kids.length c3T2) ∧ W.cell? ⟨wt2.heap.size, 4, none⟩ = some (.slice a4T2 x2.kids.length c4T2) ∧ W.cell? ⟨wG.heap.size, 0, none⟩ = some (.string ((whyT x0 x1 x2).getD Eqn.zero).a.name) ∧ W.cell? ⟨wG.heap.size, 1, none⟩ = some (.slice a1G ((whyT x0 x1 x2).getD Eqn.zero).a.kids.length c1G) ∧ W.cell? ⟨wG.heap.size, 2, none⟩ = some (.string ((whyT x0 x1 x2).getD Eqn.zero).b.name) ∧ W.cell? ⟨wG.heap.size, 3, none⟩ = some (.slice a3G ((whyT x0 x1 x2).getD Eqn.zero).b.kids.length c3G) ∧ Below w.heap.size w W)
  (first | exact ⟨C0_0, C1_0, C1_1, C1_2, C1_3, C1_4, C2_0, C2_1, C2_2, C2_3, C3_0, C4_0, C4_1, C4_2, C4_3, C4_4, C5_0, C5_1, C5_2, C5_3, hB.drew⟩ | (refine ⟨?_, ?_, ?_, ?_, ?_, ?_, ?_, ?_, ?_, ?_, ?_, ?_, ?_, ?_, ?_, ?_, ?_, ?_, ?_, ?_, hB.trans ((zg hbE0).mono hB.size)⟩ <;> (refine (zc ?_ (zg hbE0)); assumption)) | (refine (zc ?_ (zg hbE0)); assumption) | exact hB.trans ((zg hbE0).mono hB.size) | (refine ⟨?_, ?_, ?_, ?_, ?_, ?_, ?_, ?_, ?_, ?_, ?_, ?_, ?_, ?_, ?_, ?_, ?_, ?_, ?_, ?_, (hB.trans ((zg hbE0).mono hB.size)).trans (hbF0.mono (hB.trans ((zg hbE0).mono hB.size)).size)⟩ <;> (refine (zc (zc ?_ (zg hbE0)) hbF0); assumption)) | (refine (zc (zc ?_ (zg hbE0)) hbF0); assumption) | exact (hB.trans ((zg hbE0).mono hB.size)).trans (hbF0.mono (hB.trans ((zg hbE0).mono hB.size)).size))
  (first | (go_at_call 8; (with_reducible refine (za4 x0 _ _ _ hbig0 (by exact hv0.below (hB.drew))).mono ?_); rintro e wE0 ⟨u0, uf0, rfl, ur0, ug0, hbE0⟩) | (go_at_call 13; (with_reducible refine (eqSig_x x0 _ _ _ _ _ (by exact r_T0.below ((zg hbE0))) (by exact ur0)).mono ?_); rintro e wF0 ⟨rfl, hbF0⟩))
 have hb := zg hbE0
 clear hbE0
 replace X0 := za X0 hlX0 hb
 replace X2 := za X2 hlX2 hb
 replace ZS := za ZS hlZS hb
 replace ZT0 := za ZT0 hlZT0 hb
 replace ZT2 := za ZT2 hlZT2 hb
 replace ZG := za ZG hlZG hb
 replace r_S := r_S.below hb
 replace fr_S := fr_S.below hb
 replace r_T0 := r_T0.below hb
 replace fr_T0 := fr_T0.below hb
 replace r_T1 := r_T1.below hb
 replace fr_T1 := fr_T1.below hb
 replace r_T2 := r_T2.below hb
 replace fr_T2 := fr_T2.below hb
 replace r_G := r_G.below hb
 replace fr_G := fr_G.below hb
 replace hB := hB.trans (hb.mono hz0)
 have hzn := hb.size
 replace hlX0 := zc4 hlX0 hzn
 replace hlX2 := zc4 hlX2 hzn
 replace hlZS := zc4 hlZS hzn
 replace hlZT0 := zc4 hlZT0 hzn
 replace hlZT2 := zc4 hlZT2 hzn
 replace hlZG := zc4 hlZG hzn
 replace hh_S := Nat.le_trans hh_S hzn
 replace hh_T0 := Nat.le_trans hh_T0 hzn
 replace hh_T1 := Nat.le_trans hh_T1 hzn
 replace hh_T2 := Nat.le_trans hh_T2 hzn
 replace hh_G := Nat.le_trans hh_G hzn
 replace hz0 := Nat.le_trans hz0 hzn
 clear hb hzn
 have hb := hbF0
 clear hbF0
 replace X0 := za X0 hlX0 hb
 replace X2 := za X2 hlX2 hb
 replace ZS := za ZS hlZS hb
 replace ZT0 := za ZT0 hlZT0 hb
 replace ZT2 := za ZT2 hlZT2 hb
 replace ZG := za ZG hlZG hb
 replace r_S := r_S.below hb
 replace fr_S := fr_S.below hb
 replace r_T0 := r_T0.below hb
 replace fr_T0 := fr_T0.below hb
 replace r_T1 := r_T1.below hb
 replace fr_T1 := fr_T1.below hb
 replace r_T2 := r_T2.below hb
 replace fr_T2 := fr_T2.below hb
 replace r_G := r_G.below hb
 replace fr_G := fr_G.below hb
 replace hB := hB.trans (hb.mono hz0)
 have hzn := hb.size
 replace hlX0 := zc4 hlX0 hzn
 replace hlX2 := zc4 hlX2 hzn
 replace hlZS := zc4 hlZS hzn
 replace hlZT0 := zc4 hlZT0 hzn
 replace hlZT2 := zc4 hlZT2 hzn
 replace hlZG := zc4 hlZG hzn
 replace hh_S := Nat.le_trans hh_S hzn
 replace hh_T0 := Nat.le_trans hh_T0 hzn
 replace hh_T1 := Nat.le_trans hh_T1 hzn
 replace hh_T2 := Nat.le_trans hh_T2 hzn
 replace hh_G := Nat.le_trans hh_G hzn
 replace hz0 := Nat.le_trans hz0 hzn
 clear hb hzn
 clear C0_0 C1_0 C1_1 C1_2 C1_3 C1_4 C2_0 C2_1 C2_2 C2_3 C3_0 C4_0 C4_1 C4_2 C4_3 C4_4 C5_0 C5_1 C5_2 C5_3
 go_wp2_with fail
 refine (zaA x1 _ _ _ hbig1 (by exact hv1.below hB)).mono ?_
 rintro e wu1 ⟨u1, uf1, rfl, ur1, ug1, hb⟩
 replace X0 := za X0 hlX0 hb
 replace X2 := za X2 hlX2 hb
 replace ZS := za ZS hlZS hb
 replace ZT0 := za ZT0 hlZT0 hb
 replace ZT2 := za ZT2 hlZT2 hb
 replace ZG := za ZG hlZG hb
 replace r_S := r_S.below hb
 replace fr_S := fr_S.below hb
 replace r_T0 := r_T0.below hb
 replace fr_T0 := fr_T0.below hb
 replace r_T1 := r_T1.below hb
 replace fr_T1 := fr_T1.below hb
 replace r_T2 := r_T2.below hb
 replace fr_T2 := fr_T2.below hb
 replace r_G := r_G.below hb
 replace fr_G := fr_G.below hb
 replace hB := hB.trans (hb.mono hz0)
 have hzn := hb.size
 replace hlX0 := zc4 hlX0 hzn
 replace hlX2 := zc4 hlX2 hzn
 replace hlZS := zc4 hlZS hzn
 replace hlZT0 := zc4 hlZT0 hzn
 replace hlZT2 := zc4 hlZT2 hzn
 replace hlZG := zc4 hlZG hzn
 replace hh_S := Nat.le_trans hh_S hzn
 replace hh_T0 := Nat.le_trans hh_T0 hzn
 replace hh_T1 := Nat.le_trans hh_T1 hzn
 replace hh_T2 := Nat.le_trans hh_T2 hzn
 replace hh_G := Nat.le_trans hh_G hzn
 replace hz0 := Nat.le_trans hz0 hzn
 clear hb hzn
 go_wp2_with fail
 refine (eqEqS_x x1 _ _ _ _ _ (by exact r_T1) (by exact ur1)).mono ?_
 rintro e wv1 ⟨rfl, hb⟩
 replace X0 := za X0 hlX0 hb
 replace X2 := za X2 hlX2 hb
 replace ZS := za ZS hlZS hb
 replace ZT0 := za ZT0 hlZT0 hb
 replace ZT2 := za ZT2 hlZT2 hb
 replace ZG := za ZG hlZG hb
 replace r_S := r_S.below hb
 replace fr_S := fr_S.below hb
 replace r_T0 := r_T0.below hb
 replace fr_T0 := fr_T0.below hb
 replace r_T1 := r_T1.below hb
 replace fr_T1 := fr_T1.below hb
 replace r_T2 := r_T2.below hb
 replace fr_T2 := fr_T2.below hb
 replace r_G := r_G.below hb
 replace fr_G := fr_G.below hb
 replace hB := hB.trans (hb.mono hz0)
 have hzn := hb.size
 replace hlX0 := zc4 hlX0 hzn
 replace hlX2 := zc4 hlX2 hzn
 replace hlZS := zc4 hlZS hzn
 replace hlZT0 := zc4 hlZT0 hzn
 replace hlZT2 := zc4 hlZT2 hzn
 replace hlZG := zc4 hlZG hzn
 replace hh_S := Nat.le_trans hh_S hzn
 replace hh_T0 := Nat.le_trans hh_T0 hzn
 replace hh_T1 := Nat.le_trans hh_T1 hzn
 replace hh_T2 := Nat.le_trans hh_T2 hzn
 replace hh_G := Nat.le_trans hh_G hzn
 replace hz0 := Nat.le_trans hz0 hzn
 clear hb hzn
 go_wp2_with fail
 have C0_0 := X0 0
 have C1_0 := X2 0
 have C1_1 := X2 1
 have C1_2 := X2 2
 have C1_3 := X2 3
 have C1_4 := X2 4
 have C2_0 := ZS 0
 have C2_1 := ZS 1
 have C2_2 := ZS 2
 have C2_3 := ZS 3
 have C3_0 := ZT0 0
 have C4_0 := ZT2 0
 have C4_1 := ZT2 1
 have C4_2 := ZT2 2
 have C4_3 := ZT2 3
 have C4_4 := ZT2 4
 have C5_0 := ZG 0
 have C5_1 := ZG 1
 have C5_2 := ZG 2
 have C5_3 := ZG 3
 simp only [zc3, zc1, zc2] at C0_0 C1_0 C1_1 C1_2 C1_3 C1_4 C2_0 C2_1 C2_2 C2_3 C3_0 C4_0 C4_1 C4_2 C4_3 C4_4 C5_0 C5_1 C5_2 C5_3
 go_region_held3 (fun W => W.cell? ⟨w.heap.size, 0, none⟩ = some (.slice a0A0 x0.syms.length c0A0) ∧ W.cell? ⟨w.heap.size + 1, 0, none⟩ = some (.int .i64 x2.rule) ∧ W.cell? ⟨w.heap.size + 1, 1, none⟩ = some (.int .i64 x2.n) ∧ W.cell? ⟨w.heap.size + 1, 2, none⟩ = some (.string x2.t.name) ∧ W.cell? ⟨w.heap.size + 1, 3, none⟩ = some (.slice a3A2 x2.t.kids.length c3A2) ∧ W.cell? ⟨w.heap.size + 1, 4, none⟩ = some (.slice a4A2 x2.kids.length c4A2) ∧ W.cell? ⟨EBS, 0, none⟩ = some (.string ((whyT x0 x1 x2).getD Eqn.zero).a.name) ∧ W.cell? ⟨EBS, 1, none⟩ = some (.slice a1S ((whyT x0 x1 x2).getD Eqn.zero).a.kids.length c1S) ∧ W.cell? ⟨EBS, 2, none⟩ = some (.string ((whyT x0 x1 x2).getD Eqn.zero).b.name) ∧ W.cell? ⟨EBS, 3, none⟩ = some (.slice a3S ((whyT x0 x1 x2).getD Eqn.zero).b.kids.length c3S) ∧ W.cell? ⟨wt0.heap.size, 0, none⟩ = some (.slice a0T0 x0.syms.length c0T0) ∧ W.cell? ⟨wt2.heap.size, 0, none⟩ = some (.int .i64 x2.rule) ∧ W.cell? ⟨wt2.heap.size, 1, none⟩ = some (.int .i64 x2.n) ∧ W.cell? ⟨wt2.heap.size, 2, none⟩ = some (.string x2.t.name) ∧ W.cell? ⟨wt2.heap.size, 3, none⟩ = some (.slice a3T2 x2.t.kids.length c3T2) ∧ W.cell? ⟨wt2.heap.size, 4, none⟩ = some (.slice a4T2 x2.kids.length c4T2) ∧ W.cell? ⟨wG.heap.size, 0, none⟩ = some (.string ((whyT x0 x1 x2).getD Eqn.zero).a.name) ∧ W.cell? ⟨wG.heap.size, 1, none⟩ = some (.slice a1G ((whyT x0 x1 x2).getD Eqn.zero).a.kids.length c1G) ∧ W.cell? ⟨wG.heap.size, 2, none⟩ = some (.string ((whyT x0 x1 x2).getD Eqn.zero).b.name) ∧ W.cell? ⟨wG.heap.size, 3, none⟩ = some (.slice a3G ((whyT x0 x1 x2).getD Eqn.zero).b.kids.length c3G) ∧ Below w.heap.size w W)
  (first | exact ⟨C0_0, C1_0, C1_1, C1_2, C1_3, C1_4, C2_0, C2_1, C2_2, C2_3, C3_0, C4_0, C4_1, C4_2, C4_3, C4_4, C5_0, C5_1, C5_2, C5_3, hB.drew⟩ | (refine ⟨?_, ?_, ?_, ?_, ?_, ?_, ?_, ?_, ?_, ?_, ?_, ?_, ?_, ?_, ?_, ?_, ?_, ?_, ?_, ?_, hB.trans ((zg hbE2).mono hB.size)⟩ <;> (refine (zc ?_ (zg hbE2)); assumption)) | (refine (zc ?_ (zg hbE2)); assumption) | exact hB.trans ((zg hbE2).mono hB.size) | (refine ⟨?_, ?_, ?_, ?_, ?_, ?_, ?_, ?_, ?_, ?_, ?_, ?_, ?_, ?_, ?_, ?_, ?_, ?_, ?_, ?_, (hB.trans ((zg hbE2).mono hB.size)).trans (hbF2.mono (hB.trans ((zg hbE2).mono hB.size)).size)⟩ <;> (refine (zc (zc ?_ (zg hbE2)) hbF2); assumption)) | (refine (zc (zc ?_ (zg hbE2)) hbF2); assumption) | exact (hB.trans ((zg hbE2).mono hB.size)).trans (hbF2.mono (hB.trans ((zg hbE2).mono hB.size)).size))
  (first | (go_at_call 10; (with_reducible refine (zap x2 _ _ _ hbig2 (by exact hv2.below (hB.drew))).mono ?_); rintro e wE2 ⟨u2, uf2, rfl, ur2, ug2, hbE2⟩) | (go_at_call 15; (with_reducible refine (eqWhy_x x2 _ _ _ _ _ (by exact r_T2.below ((zg hbE2))) (by exact ur2)).mono ?_); rintro e wF2 ⟨rfl, hbF2⟩))
 have hb := zg hbE2
 clear hbE2
 replace X0 := za X0 hlX0 hb
 replace X2 := za X2 hlX2 hb
 replace ZS := za ZS hlZS hb
 replace ZT0 := za ZT0 hlZT0 hb
 replace ZT2 := za ZT2 hlZT2 hb
 replace ZG := za ZG hlZG hb
 replace r_S := r_S.below hb
 replace fr_S := fr_S.below hb
 replace r_T0 := r_T0.below hb
 replace fr_T0 := fr_T0.below hb
 replace r_T1 := r_T1.below hb
 replace fr_T1 := fr_T1.below hb
 replace r_T2 := r_T2.below hb
 replace fr_T2 := fr_T2.below hb
 replace r_G := r_G.below hb
 replace fr_G := fr_G.below hb
 replace hB := hB.trans (hb.mono hz0)
 have hzn := hb.size
 replace hlX0 := zc4 hlX0 hzn
 replace hlX2 := zc4 hlX2 hzn
 replace hlZS := zc4 hlZS hzn
 replace hlZT0 := zc4 hlZT0 hzn
 replace hlZT2 := zc4 hlZT2 hzn
 replace hlZG := zc4 hlZG hzn
 replace hh_S := Nat.le_trans hh_S hzn
 replace hh_T0 := Nat.le_trans hh_T0 hzn
 replace hh_T1 := Nat.le_trans hh_T1 hzn
 replace hh_T2 := Nat.le_trans hh_T2 hzn
 replace hh_G := Nat.le_trans hh_G hzn
 replace hz0 := Nat.le_trans hz0 hzn
 clear hb hzn
 have hb := hbF2
 clear hbF2
 replace X0 := za X0 hlX0 hb
 replace X2 := za X2 hlX2 hb
 replace ZS := za ZS hlZS hb
 replace ZT0 := za ZT0 hlZT0 hb
 replace ZT2 := za ZT2 hlZT2 hb
 replace ZG := za ZG hlZG hb
 replace r_S := r_S.below hb
 replace fr_S := fr_S.below hb
 replace r_T0 := r_T0.below hb
 replace fr_T0 := fr_T0.below hb
 replace r_T1 := r_T1.below hb
 replace fr_T1 := fr_T1.below hb
 replace r_T2 := r_T2.below hb
 replace fr_T2 := fr_T2.below hb
 replace r_G := r_G.below hb
 replace fr_G := fr_G.below hb
 replace hB := hB.trans (hb.mono hz0)
 have hzn := hb.size
 replace hlX0 := zc4 hlX0 hzn
 replace hlX2 := zc4 hlX2 hzn
 replace hlZS := zc4 hlZS hzn
 replace hlZT0 := zc4 hlZT0 hzn
 replace hlZT2 := zc4 hlZT2 hzn
 replace hlZG := zc4 hlZG hzn
 replace hh_S := Nat.le_trans hh_S hzn
 replace hh_T0 := Nat.le_trans hh_T0 hzn
 replace hh_T1 := Nat.le_trans hh_T1 hzn
 replace hh_T2 := Nat.le_trans hh_T2 hzn
 replace hh_G := Nat.le_trans hh_G hzn
 replace hz0 := Nat.le_trans hz0 hzn
 clear hb hzn
 clear C0_0 C1_0 C1_1 C1_2 C1_3 C1_4 C2_0 C2_1 C2_2 C2_3 C3_0 C4_0 C4_1 C4_2 C4_3 C4_4 C5_0 C5_1 C5_2 C5_3
 go_wp2_with fail
 have hcb0 : cntT x0.cd ≤ 16777216 := by have := Sg.cdT_cnt x0; omega
 refine (markSig_x x0 _ _ (1) _ (by omega) (by omega) (by exact r_T0) fr_T0.free fr_T0.1).mono ?_
 rintro e wm0 ⟨rfl, _, _, ho⟩
 replace X0 := MkV.cells ho hlX0 (fun h => by have := (fr_T0.2 _ h).1; have := hi_T0 _ h; omega) X0
 replace X2 := MkV.cells ho hlX2 (fun h => by have := (fr_T0.2 _ h).1; have := hi_T0 _ h; omega) X2
 replace ZS := MkV.cells ho hlZS (fun h => by have := (fr_T0.2 _ h).1; have := hi_T0 _ h; omega) ZS
 replace ZT0 := MkV.cells ho hlZT0 (fun h => by have := (fr_T0.2 _ h).1; have := hi_T0 _ h; omega) ZT0
 replace ZT2 := MkV.cells ho hlZT2 (fun h => by have := (fr_T0.2 _ h).1; have := hi_T0 _ h; omega) ZT2
 replace ZG := MkV.cells ho hlZG (fun h => by have := (fr_T0.2 _ h).1; have := hi_T0 _ h; omega) ZG
 have so : SameOn f_S _ _ := ho.same (fun b hb => zc4 (hi_S b hb) hh_S) (fun b hb hx => by have := hi_S b hb; have := (fr_S.2 b hb).1; have := hi_T0 b hx; have := (fr_T0.2 b hx).1; omega)
 replace r_S := r_S.same _ so
 replace fr_S := fr_S.same so
 clear so
 have so : SameOn f_T1 _ _ := ho.same (fun b hb => zc4 (hi_T1 b hb) hh_T1) (fun b hb hx => by have := hi_T1 b hb; have := (fr_T1.2 b hb).1; have := hi_T0 b hx; have := (fr_T0.2 b hx).1; omega)
 replace r_T1 := r_T1.same _ so
 replace fr_T1 := fr_T1.same so
 clear so
 have so : SameOn f_T2 _ _ := ho.same (fun b hb => zc4 (hi_T2 b hb) hh_T2) (fun b hb hx => by have := hi_T2 b hb; have := (fr_T2.2 b hb).1; have := hi_T0 b hx; have := (fr_T0.2 b hx).1; omega)
 replace r_T2 := r_T2.same _ so
 replace fr_T2 := fr_T2.same so
 clear so
 have so : SameOn f_G _ _ := ho.same (fun b hb => zc4 (hi_G b hb) hh_G) (fun b hb hx => by have := hi_G b hb; have := (fr_G.2 b hb).1; have := hi_T0 b hx; have := (fr_T0.2 b hx).1; omega)
 replace r_G := r_G.same _ so
 replace fr_G := fr_G.same so
 clear so
 replace hB := hB.trans (ho.toBelow (B := w.heap.size) hz0 (fun b hb => by have := (fr_T0.2 b hb).1; omega))
 have hzn := ho.size
 replace hlX0 := zc4 hlX0 hzn
 replace hlX2 := zc4 hlX2 hzn
 replace hlZS := zc4 hlZS hzn
 replace hlZT0 := zc4 hlZT0 hzn
 replace hlZT2 := zc4 hlZT2 hzn
 replace hlZG := zc4 hlZG hzn
 replace hh_S := Nat.le_trans hh_S hzn
 replace hh_T0 := Nat.le_trans hh_T0 hzn
 replace hh_T1 := Nat.le_trans hh_T1 hzn
 replace hh_T2 := Nat.le_trans hh_T2 hzn
 replace hh_G := Nat.le_trans hh_G hzn
 replace hz0 := Nat.le_trans hz0 hzn
 clear ho hzn
 clear r_T0 fr_T0
 go_wp2_with fail
 have hcb1 : cntR (x1.map Eqn.cd) ≤ 16777216 := by have := zaq (f := Eqn.cd) (xs := x1) (fun y _ => Eqn.cd_cnt y); omega
 refine (markEqS_x x1 _ _ (1 + cntT x0.cd) _ (by omega) (by omega) r_T1 fr_T1.free fr_T1.1).mono ?_
 rintro e wm1 ⟨rfl, _, _, ho⟩
 replace X0 := MkV.cells ho hlX0 (fun h => by have := (fr_T1.2 _ h).1; have := hi_T1 _ h; omega) X0
 replace X2 := MkV.cells ho hlX2 (fun h => by have := (fr_T1.2 _ h).1; have := hi_T1 _ h; omega) X2
 replace ZS := MkV.cells ho hlZS (fun h => by have := (fr_T1.2 _ h).1; have := hi_T1 _ h; omega) ZS
 replace ZT0 := MkV.cells ho hlZT0 (fun h => by have := (fr_T1.2 _ h).1; have := hi_T1 _ h; omega) ZT0
 replace ZT2 := MkV.cells ho hlZT2 (fun h => by have := (fr_T1.2 _ h).1; have := hi_T1 _ h; omega) ZT2
 replace ZG := MkV.cells ho hlZG (fun h => by have := (fr_T1.2 _ h).1; have := hi_T1 _ h; omega) ZG
 have so : SameOn f_S _ _ := ho.same (fun b hb => zc4 (hi_S b hb) hh_S) (fun b hb hx => by have := hi_S b hb; have := (fr_S.2 b hb).1; have := hi_T1 b hx; have := (fr_T1.2 b hx).1; omega)
 replace r_S := r_S.same _ so
 replace fr_S := fr_S.same so
 clear so
 have so : SameOn f_T2 _ _ := ho.same (fun b hb => zc4 (hi_T2 b hb) hh_T2) (fun b hb hx => by have := hi_T2 b hb; have := (fr_T2.2 b hb).1; have := hi_T1 b hx; have := (fr_T1.2 b hx).1; omega)
 replace r_T2 := r_T2.same _ so
 replace fr_T2 := fr_T2.same so
 clear so
 have so : SameOn f_G _ _ := ho.same (fun b hb => zc4 (hi_G b hb) hh_G) (fun b hb hx => by have := hi_G b hb; have := (fr_G.2 b hb).1; have := hi_T1 b hx; have := (fr_T1.2 b hx).1; omega)
 replace r_G := r_G.same _ so
 replace fr_G := fr_G.same so
 clear so
 replace hB := hB.trans (ho.toBelow (B := w.heap.size) hz0 (fun b hb => by have := (fr_T1.2 b hb).1; omega))
 have hzn := ho.size
 replace hlX0 := zc4 hlX0 hzn
 replace hlX2 := zc4 hlX2 hzn
 replace hlZS := zc4 hlZS hzn
 replace hlZT0 := zc4 hlZT0 hzn
 replace hlZT2 := zc4 hlZT2 hzn
 replace hlZG := zc4 hlZG hzn
 replace hh_S := Nat.le_trans hh_S hzn
 replace hh_T1 := Nat.le_trans hh_T1 hzn
 replace hh_T2 := Nat.le_trans hh_T2 hzn
 replace hh_G := Nat.le_trans hh_G hzn
 replace hz0 := Nat.le_trans hz0 hzn
 clear ho hzn
 clear r_T1 fr_T1
 go_wp2_with fail
 have hcb2 : cntT x2.cd ≤ 16777216 := by have := Wy.cdT_cnt x2; omega
 refine (markWhy_x x2 _ _ (1 + cntT x0.cd + cntR (x1.map Eqn.cd)) _ (by omega) (by omega) (by exact r_T2) fr_T2.free fr_T2.1).mono ?_
 rintro e wm2 ⟨rfl, _, _, ho⟩
 replace X0 := MkV.cells ho hlX0 (fun h => by have := (fr_T2.2 _ h).1; have := hi_T2 _ h; omega) X0
 replace X2 := MkV.cells ho hlX2 (fun h => by have := (fr_T2.2 _ h).1; have := hi_T2 _ h; omega) X2
 replace ZS := MkV.cells ho hlZS (fun h => by have := (fr_T2.2 _ h).1; have := hi_T2 _ h; omega) ZS
 replace ZT0 := MkV.cells ho hlZT0 (fun h => by have := (fr_T2.2 _ h).1; have := hi_T2 _ h; omega) ZT0
 replace ZT2 := MkV.cells ho hlZT2 (fun h => by have := (fr_T2.2 _ h).1; have := hi_T2 _ h; omega) ZT2
 replace ZG := MkV.cells ho hlZG (fun h => by have := (fr_T2.2 _ h).1; have := hi_T2 _ h; omega) ZG
 have so : SameOn f_S _ _ := ho.same (fun b hb => zc4 (hi_S b hb) hh_S) (fun b hb hx => by have := hi_S b hb; have := (fr_S.2 b hb).1; have := hi_T2 b hx; have := (fr_T2.2 b hx).1; omega)
 replace r_S := r_S.same _ so
 replace fr_S := fr_S.same so
 clear so
 have so : SameOn f_G _ _ := ho.same (fun b hb => zc4 (hi_G b hb) hh_G) (fun b hb hx => by have := hi_G b hb; have := (fr_G.2 b hb).1; have := hi_T2 b hx; have := (fr_T2.2 b hx).1; omega)
 replace r_G := r_G.same _ so
 replace fr_G := fr_G.same so
 clear so
 replace hB := hB.trans (ho.toBelow (B := w.heap.size) hz0 (fun b hb => by have := (fr_T2.2 b hb).1; omega))
 have hzn := ho.size
 replace hlX0 := zc4 hlX0 hzn
 replace hlX2 := zc4 hlX2 hzn
 replace hlZS := zc4 hlZS hzn
 replace hlZT0 := zc4 hlZT0 hzn
 replace hlZT2 := zc4 hlZT2 hzn
 replace hlZG := zc4 hlZG hzn
 replace hh_S := Nat.le_trans hh_S hzn
 replace hh_T2 := Nat.le_trans hh_T2 hzn
 replace hh_G := Nat.le_trans hh_G hzn
 replace hz0 := Nat.le_trans hz0 hzn
 clear ho hzn
 clear r_T2 fr_T2
 have hneg : decide (((1 + cntT x0.cd + cntR (x1.map Eqn.cd) + cntT x2.cd : Int)) < 0) = false := by simp; omega
 go_wp2_with fail
 clear hneg
 refine (zcF ((whyT x0 x1 x2).getD Eqn.zero) _ _ _ _ _ (by exact r_G) (by exact r_S)).mono ?_
 rintro e we2 ⟨rfl, hb⟩
 replace X0 := za X0 hlX0 hb
 replace X2 := za X2 hlX2 hb
 replace ZS := za ZS hlZS hb
 replace ZT0 := za ZT0 hlZT0 hb
 replace ZT2 := za ZT2 hlZT2 hb
 replace ZG := za ZG hlZG hb
 replace r_S := r_S.below hb
 replace fr_S := fr_S.below hb
 replace r_G := r_G.below hb
 replace fr_G := fr_G.below hb
 replace hB := hB.trans (hb.mono hz0)
 have hzn := hb.size
 replace hlX0 := zc4 hlX0 hzn
 replace hlX2 := zc4 hlX2 hzn
 replace hlZS := zc4 hlZS hzn
 replace hlZT0 := zc4 hlZT0 hzn
 replace hlZT2 := zc4 hlZT2 hzn
 replace hlZG := zc4 hlZG hzn
 replace hh_S := Nat.le_trans hh_S hzn
 replace hh_G := Nat.le_trans hh_G hzn
 replace hz0 := Nat.le_trans hz0 hzn
 clear hb hzn
 go_wp2_with fail
 refine (markEq_x ((whyT x0 x1 x2).getD Eqn.zero) _ _ 1 _ (by omega) (by omega) (by exact r_G) fr_G.free fr_G.1).mono ?_
 rintro e wM ⟨rfl, r_G', hfm, ho⟩
 replace X0 := MkV.cells ho hlX0 (fun h => by have := (fr_G.2 _ h).1; have := hi_G _ h; omega) X0
 replace X2 := MkV.cells ho hlX2 (fun h => by have := (fr_G.2 _ h).1; have := hi_G _ h; omega) X2
 replace ZS := MkV.cells ho hlZS (fun h => by have := (fr_G.2 _ h).1; have := hi_G _ h; omega) ZS
 replace ZT0 := MkV.cells ho hlZT0 (fun h => by have := (fr_G.2 _ h).1; have := hi_G _ h; omega) ZT0
 replace ZT2 := MkV.cells ho hlZT2 (fun h => by have := (fr_G.2 _ h).1; have := hi_G _ h; omega) ZT2
 replace ZG := MkV.cells ho hlZG (fun h => by have := (fr_G.2 _ h).1; have := hi_G _ h; omega) ZG
 have so : SameOn f_S _ _ := ho.same (fun b hb => zc4 (hi_S b hb) hh_S) (fun b hb hx => by have := hi_S b hb; have := (fr_S.2 b hb).1; have := hi_G b hx; have := (fr_G.2 b hx).1; omega)
 replace r_S := r_S.same _ so
 replace fr_S := fr_S.same so
 clear so
 replace hB := hB.trans (ho.toBelow (B := w.heap.size) hz0 (fun b hb => by have := (fr_G.2 b hb).1; omega))
 have hzn := ho.size
 replace hlX0 := zc4 hlX0 hzn
 replace hlX2 := zc4 hlX2 hzn
 replace hlZS := zc4 hlZS hzn
 replace hlZT0 := zc4 hlZT0 hzn
 replace hlZT2 := zc4 hlZT2 hzn
 replace hlZG := zc4 hlZG hzn
 replace hh_S := Nat.le_trans hh_S hzn
 replace hh_G := Nat.le_trans hh_G hzn
 replace hz0 := Nat.le_trans hz0 hzn
 clear ho hzn
 have fr_M : True := trivial
 clear r_G fr_G
 have r_G := r_G'
 clear r_G' hfm
 go_wp2_with fail
 refine (zcE ((whyT x0 x1 x2).getD Eqn.zero) _ _ _ _ _ 1 _ (by omega) (by omega) (by exact r_G)).mono ?_
 rintro e wh3 ⟨rfl, hb⟩
 replace r_G := r_G.below hb
 replace X0 := za X0 hlX0 hb
 replace X2 := za X2 hlX2 hb
 replace ZS := za ZS hlZS hb
 replace ZT0 := za ZT0 hlZT0 hb
 replace ZT2 := za ZT2 hlZT2 hb
 replace ZG := za ZG hlZG hb
 replace r_S := r_S.below hb
 replace fr_S := fr_S.below hb
 replace hB := hB.trans (hb.mono hz0)
 have hzn := hb.size
 replace hlX0 := zc4 hlX0 hzn
 replace hlX2 := zc4 hlX2 hzn
 replace hlZS := zc4 hlZS hzn
 replace hlZT0 := zc4 hlZT0 hzn
 replace hlZT2 := zc4 hlZT2 hzn
 replace hlZG := zc4 hlZG hzn
 replace hh_S := Nat.le_trans hh_S hzn
 replace hz0 := Nat.le_trans hz0 hzn
 clear hb hzn
 have hneg : decide (((1 + cntT ((whyT x0 x1 x2).getD Eqn.zero).cd : Int)) < 0) = false := by simp; omega
 have hne : ((1 + cntT ((whyT x0 x1 x2).getD Eqn.zero).cd : Int) != (1 + cntT ((whyT x0 x1 x2).getD Eqn.zero).cd : Int)) = false := by simp
 go_wp2_with fail
 clear hneg hne
 go_upto_region 38 with fail
 go_cut [18, 19] from 115 to 125 (fun pv bv wx => ∃ (EB : Nat) (a1S : Option Addr) (c1S : Nat) (a3S : Option Addr) (c3S : Nat) (f_S : List Nat), pv = .pointer (some ⟨EB, 0, none⟩) ∧ bv = .bool ((whyT x0 x1 x2).isSome) ∧ (∀ j, wx.cell? ⟨EB, j, none⟩ = (#[.string ((whyT x0 x1 x2).getD Eqn.zero).a.name, .slice a1S ((whyT x0 x1 x2).getD Eqn.zero).a.kids.length c1S, .string ((whyT x0 x1 x2).getD Eqn.zero).b.name, .slice a3S ((whyT x0 x1 x2).getD Eqn.zero).b.kids.length c3S] : Array Value)[j]?) ∧ EB < wx.heap.size ∧ RdVs wx ((whyT x0 x1 x2).getD Eqn.zero).cd [.string ((whyT x0 x1 x2).getD Eqn.zero).a.name, .slice a1S ((whyT x0 x1 x2).getD Eqn.zero).a.kids.length c1S, .string ((whyT x0 x1 x2).getD Eqn.zero).b.name, .slice a3S ((whyT x0 x1 x2).getD Eqn.zero).b.kids.length c3S] f_S ∧ Fresh wh3.heap.size wx f_S ∧ Below wh3.heap.size wh3 wx)
 case first =>
  refine Ever.start (F := (fun U : World => U.cell? ⟨w.heap.size, 0, none⟩ = some (.slice a0A0 x0.syms.length c0A0) ∧ U.cell? ⟨w.heap.size + 1, 0, none⟩ = some (.int .i64 x2.rule) ∧ U.cell? ⟨w.heap.size + 1, 1, none⟩ = some (.int .i64 x2.n) ∧ U.cell? ⟨w.heap.size + 1, 2, none⟩ = some (.string x2.t.name) ∧ U.cell? ⟨w.heap.size + 1, 3, none⟩ = some (.slice a3A2 x2.t.kids.length c3A2) ∧ U.cell? ⟨w.heap.size + 1, 4, none⟩ = some (.slice a4A2 x2.kids.length c4A2))) (by kernel_rfl) ?_
  have hbd := zr wh3
  have Y0 := za X0 hlX0 hbd
  have hy0 := zc4 hlX0 hbd.size
  have Y2 := za X2 hlX2 hbd
  have hy2 := zc4 hlX2 hbd.size
  have hW := hbd
  have hY := hB.trans (hbd.mono hB.size)
  clear hbd
  generalize wh3.drew = yH0 at *
  have hF : (fun U : World => U.cell? ⟨w.heap.size, 0, none⟩ = some (.slice a0A0 x0.syms.length c0A0) ∧ U.cell? ⟨w.heap.size + 1, 0, none⟩ = some (.int .i64 x2.rule) ∧ U.cell? ⟨w.heap.size + 1, 1, none⟩ = some (.int .i64 x2.n) ∧ U.cell? ⟨w.heap.size + 1, 2, none⟩ = some (.string x2.t.name) ∧ U.cell? ⟨w.heap.size + 1, 3, none⟩ = some (.slice a3A2 x2.t.kids.length c3A2) ∧ U.cell? ⟨w.heap.size + 1, 4, none⟩ = some (.slice a4A2 x2.kids.length c4A2)) _ := ⟨(by have h := Y0 0; simp only [zc3, zc1, zc2] at h; exact h), (by have h := Y2 0; simp only [zc3, zc1, zc2] at h; exact h), (by have h := Y2 1; simp only [zc3, zc1, zc2] at h; exact h), (by have h := Y2 2; simp only [zc3, zc1, zc2] at h; exact h), (by have h := Y2 3; simp only [zc3, zc1, zc2] at h; exact h), (by have h := Y2 4; simp only [zc3, zc1, zc2] at h; exact h)⟩
  refine Ever.take (i := 0) (v := (.agg #[.slice a0A0 x0.syms.length c0A0])) rfl (by kernel_rfl) (by kernel_rfl) (by kernel_rfl) (fun _ _ _ h => h) (Or.inl ⟨by rfl, fun U hU => ?_⟩) hF ?_
  ·obtain ⟨l0_0F, l2_0F, l2_1F, l2_2F, l2_3F, l2_4F⟩ := hU
   go_simp
  try simp only [Act.put, zcY, zcZ, zc0]
  refine Ever.take (i := 2) (v := (.slice p1 x1.length q1)) rfl (by kernel_rfl) (by kernel_rfl) (by kernel_rfl) (fun _ _ _ h => h) (Or.inl ⟨by rfl, fun U hU => ?_⟩) hF ?_
  ·obtain ⟨l0_0F, l2_0F, l2_1F, l2_2F, l2_3F, l2_4F⟩ := hU
   go_simp
  try simp only [Act.put, zcY, zcZ, zc0]
  refine Ever.take (i := 4) (v := (.agg #[.int .i64 x2.rule, .int .i64 x2.n, .string x2.t.name, .slice a3A2 x2.t.kids.length c3A2, .slice a4A2 x2.kids.length c4A2])) rfl (by kernel_rfl) (by kernel_rfl) (by kernel_rfl) (fun _ _ _ h => h) (Or.inl ⟨by rfl, fun U hU => ?_⟩) hF ?_
  ·obtain ⟨l0_0F, l2_0F, l2_1F, l2_2F, l2_3F, l2_4F⟩ := hU
   go_simp
  try simp only [Act.put, zcY, zcZ, zc0]
  refine Ever.two (i := 1) (j := 10) (by kernel_rfl) rfl rfl (fun J9 hK => ?_) (fun J9 hK => ?_)
  ·go_simp
   go_wp2_with (go_at_call 8; refine (za4 x0 _ _ _ hbig0 (by exact hv0.below hY)).mono ?_; rintro e yH1 ⟨s0, sf0, rfl, sr0, sg0, hb⟩)
   replace Y0 := za Y0 hy0 hb
   replace hy0 := zc4 hy0 hb.size
   replace Y2 := za Y2 hy2 hb
   replace hy2 := zc4 hy2 hb.size
   replace hW := hW.trans (hb.mono hW.size)
   replace hY := hY.trans (hb.mono hY.size)
   clear hb
   replace hF : (fun U : World => U.cell? ⟨w.heap.size, 0, none⟩ = some (.slice a0A0 x0.syms.length c0A0) ∧ U.cell? ⟨w.heap.size + 1, 0, none⟩ = some (.int .i64 x2.rule) ∧ U.cell? ⟨w.heap.size + 1, 1, none⟩ = some (.int .i64 x2.n) ∧ U.cell? ⟨w.heap.size + 1, 2, none⟩ = some (.string x2.t.name) ∧ U.cell? ⟨w.heap.size + 1, 3, none⟩ = some (.slice a3A2 x2.t.kids.length c3A2) ∧ U.cell? ⟨w.heap.size + 1, 4, none⟩ = some (.slice a4A2 x2.kids.length c4A2)) _ := ⟨(by have h := Y0 0; simp only [zc3, zc1, zc2] at h; exact h), (by have h := Y2 0; simp only [zc3, zc1, zc2] at h; exact h), (by have h := Y2 1; simp only [zc3, zc1, zc2] at h; exact h), (by have h := Y2 2; simp only [zc3, zc1, zc2] at h; exact h), (by have h := Y2 3; simp only [zc3, zc1, zc2] at h; exact h), (by have h := Y2 4; simp only [zc3, zc1, zc2] at h; exact h)⟩
   refine hK.out _ _ hF ?_
   clear hK
   try simp only [Act.put, zcY, zcZ, zc0]
   refine Ever.two (i := 3) (j := 10) (by kernel_rfl) rfl rfl (fun J9 hK => ?_) (fun J9 hK => ?_)
   ·go_simp
    go_wp2_with (go_at_call 9; refine (zaA x1 _ _ _ hbig1 (by exact hv1.below hY)).mono ?_; rintro e yH3 ⟨s1, sf1, rfl, sr1, sg1, hb⟩)
    replace Y0 := za Y0 hy0 hb
    replace hy0 := zc4 hy0 hb.size
    replace Y2 := za Y2 hy2 hb
    replace hy2 := zc4 hy2 hb.size
    replace sr0 := sr0.below hb
    replace hW := hW.trans (hb.mono hW.size)
    replace hY := hY.trans (hb.mono hY.size)
    clear hb
    replace hF : (fun U : World => U.cell? ⟨w.heap.size, 0, none⟩ = some (.slice a0A0 x0.syms.length c0A0) ∧ U.cell? ⟨w.heap.size + 1, 0, none⟩ = some (.int .i64 x2.rule) ∧ U.cell? ⟨w.heap.size + 1, 1, none⟩ = some (.int .i64 x2.n) ∧ U.cell? ⟨w.heap.size + 1, 2, none⟩ = some (.string x2.t.name) ∧ U.cell? ⟨w.heap.size + 1, 3, none⟩ = some (.slice a3A2 x2.t.kids.length c3A2) ∧ U.cell? ⟨w.heap.size + 1, 4, none⟩ = some (.slice a4A2 x2.kids.length c4A2)) _ := ⟨(by have h := Y0 0; simp only [zc3, zc1, zc2] at h; exact h), (by have h := Y2 0; simp only [zc3, zc1, zc2] at h; exact h), (by have h := Y2 1; simp only [zc3, zc1, zc2] at h; exact h), (by have h := Y2 2; simp only [zc3, zc1, zc2] at h; exact h), (by have h := Y2 3; simp only [zc3, zc1, zc2] at h; exact h), (by have h := Y2 4; simp only [zc3, zc1, zc2] at h; exact h)⟩
    refine hK.out _ _ hF ?_
    clear hK
    try simp only [Act.put, zcY, zcZ, zc0]
    refine Ever.two (i := 5) (j := 10) (by kernel_rfl) rfl rfl (fun J9 hK => ?_) (fun J9 hK => ?_)
    ·go_simp
     go_wp2_with (go_at_call 10; refine (zap x2 _ _ _ hbig2 (by exact hv2.below hY)).mono ?_; rintro e yH5 ⟨s2, sf2, rfl, sr2, sg2, hb⟩)
     replace Y0 := za Y0 hy0 hb
     replace hy0 := zc4 hy0 hb.size
     replace Y2 := za Y2 hy2 hb
     replace hy2 := zc4 hy2 hb.size
     replace sr0 := sr0.below hb
     replace sr1 := sr1.below hb
     replace hW := hW.trans (hb.mono hW.size)
     replace hY := hY.trans (hb.mono hY.size)
     clear hb
     replace hF : (fun U : World => U.cell? ⟨w.heap.size, 0, none⟩ = some (.slice a0A0 x0.syms.length c0A0) ∧ U.cell? ⟨w.heap.size + 1, 0, none⟩ = some (.int .i64 x2.rule) ∧ U.cell? ⟨w.heap.size + 1, 1, none⟩ = some (.int .i64 x2.n) ∧ U.cell? ⟨w.heap.size + 1, 2, none⟩ = some (.string x2.t.name) ∧ U.cell? ⟨w.heap.size + 1, 3, none⟩ = some (.slice a3A2 x2.t.kids.length c3A2) ∧ U.cell? ⟨w.heap.size + 1, 4, none⟩ = some (.slice a4A2 x2.kids.length c4A2)) _ := ⟨(by have h := Y0 0; simp only [zc3, zc1, zc2] at h; exact h), (by have h := Y2 0; simp only [zc3, zc1, zc2] at h; exact h), (by have h := Y2 1; simp only [zc3, zc1, zc2] at h; exact h), (by have h := Y2 2; simp only [zc3, zc1, zc2] at h; exact h), (by have h := Y2 3; simp only [zc3, zc1, zc2] at h; exact h), (by have h := Y2 4; simp only [zc3, zc1, zc2] at h; exact h)⟩
     refine hK.out _ _ hF ?_
     clear hK
     try simp only [Act.put, zcY, zcZ, zc0]
     refine Ever.two (i := 6) (j := 10) (by kernel_rfl) rfl rfl (fun J9 hK => ?_) (fun J9 hK => ?_)
     ·go_simp
      go_wp2_with (go_at_call 11; refine (zU x0 x1 x2 _ _ _ _ _ _ _ (zL hbig1) (by omega) (Wy.thin_of _ x2 (Nat.le_refl _) hbig2) (by exact sr0) (by exact sr1) (by exact sr2)).mono ?_; rintro e yH7 ⟨vS, f_S, rfl, r_S, fr_S, hb⟩)
      have r_S' := r_S
      obtain ⟨a1S, c1S, f1S, a3S, c3S, f3S, rfl, _, _, _, _, _⟩ := Eqn.open r_S'
      replace fr_S := fr_S.mono (lo' := wh3.heap.size) (by have := hW.size; omega)
      replace Y0 := za Y0 hy0 hb
      replace hy0 := zc4 hy0 hb.size
      replace Y2 := za Y2 hy2 hb
      replace hy2 := zc4 hy2 hb.size
      replace hW := hW.trans (hb.mono hW.size)
      replace hY := hY.trans (hb.mono hY.size)
      clear hb
      replace hF : (fun U : World => U.cell? ⟨w.heap.size, 0, none⟩ = some (.slice a0A0 x0.syms.length c0A0) ∧ U.cell? ⟨w.heap.size + 1, 0, none⟩ = some (.int .i64 x2.rule) ∧ U.cell? ⟨w.heap.size + 1, 1, none⟩ = some (.int .i64 x2.n) ∧ U.cell? ⟨w.heap.size + 1, 2, none⟩ = some (.string x2.t.name) ∧ U.cell? ⟨w.heap.size + 1, 3, none⟩ = some (.slice a3A2 x2.t.kids.length c3A2) ∧ U.cell? ⟨w.heap.size + 1, 4, none⟩ = some (.slice a4A2 x2.kids.length c4A2)) _ := ⟨(by have h := Y0 0; simp only [zc3, zc1, zc2] at h; exact h), (by have h := Y2 0; simp only [zc3, zc1, zc2] at h; exact h), (by have h := Y2 1; simp only [zc3, zc1, zc2] at h; exact h), (by have h := Y2 2; simp only [zc3, zc1, zc2] at h; exact h), (by have h := Y2 3; simp only [zc3, zc1, zc2] at h; exact h), (by have h := Y2 4; simp only [zc3, zc1, zc2] at h; exact h)⟩
      refine hK.out _ _ hF ?_
      clear hK
      try simp only [Act.put, zcY, zcZ, zc0]
      refine Ever.take (i := 7) (v := (.tuple #[.agg #[.string ((whyT x0 x1 x2).getD Eqn.zero).a.name, .slice a1S ((whyT x0 x1 x2).getD Eqn.zero).a.kids.length c1S, .string ((whyT x0 x1 x2).getD Eqn.zero).b.name, .slice a3S ((whyT x0 x1 x2).getD Eqn.zero).b.kids.length c3S], .bool ((whyT x0 x1 x2).isSome)])) rfl (by kernel_rfl) (by kernel_rfl) (by kernel_rfl) (fun _ _ _ h => h) (Or.inl ⟨by rfl, fun U hU => ?_⟩) hF ?_
      ·obtain ⟨l0_0F, l2_0F, l2_1F, l2_2F, l2_3F, l2_4F⟩ := hU
       go_simp
      try simp only [Act.put, zcY, zcZ, zc0]
      refine Ever.take (i := 8) (v := (.agg #[.string ((whyT x0 x1 x2).getD Eqn.zero).a.name, .slice a1S ((whyT x0 x1 x2).getD Eqn.zero).a.kids.length c1S, .string ((whyT x0 x1 x2).getD Eqn.zero).b.name, .slice a3S ((whyT x0 x1 x2).getD Eqn.zero).b.kids.length c3S])) rfl (by kernel_rfl) (by kernel_rfl) (by kernel_rfl) (fun _ _ _ h => h) (Or.inl ⟨by rfl, fun U hU => ?_⟩) hF ?_
      ·obtain ⟨l0_0F, l2_0F, l2_1F, l2_2F, l2_3F, l2_4F⟩ := hU
       go_simp
      try simp only [Act.put, zcY, zcZ, zc0]
      refine Ever.take (i := 9) (v := (.bool ((whyT x0 x1 x2).isSome))) rfl (by kernel_rfl) (by kernel_rfl) (by kernel_rfl) (fun _ _ _ h => h) (Or.inl ⟨by rfl, fun U hU => ?_⟩) hF ?_
      ·obtain ⟨l0_0F, l2_0F, l2_1F, l2_2F, l2_3F, l2_4F⟩ := hU
       go_simp
      try simp only [Act.put, zcY, zcZ, zc0]
      refine Ever.one (i := 10) (by kernel_rfl) rfl (fun J9 hK => ?_)
      go_simp
      have hE := zp yH7 #[.string ⟨#[]⟩, .slice none 0 0, .string ⟨#[]⟩, .slice none 0 0] 39
      have hEf := zO yH7 #[.string ⟨#[]⟩, .slice none 0 0, .string ⟨#[]⟩, .slice none 0 0] 39
      have hEl : yH7.heap.size < (yH7.alloc (.cells #[.string ⟨#[]⟩, .slice none 0 0, .string ⟨#[]⟩, .slice none 0 0] 39)).heap.size := by simp
      have hb := zb yH7 (.cells #[.string ⟨#[]⟩, .slice none 0 0, .string ⟨#[]⟩, .slice none 0 0] 39)
      obtain ⟨EB, hEB⟩ : ∃ B, B = yH7.heap.size := ⟨_, rfl⟩
      rw [← hEB] at hE hEf hEl ⊢
      have hEW : wh3.heap.size ≤ EB := by have := hW.size; omega
      have hne0 : w.heap.size ≠ EB := by have := hy0; omega
      have hne2 : w.heap.size + 1 ≠ EB := by have := hy2; omega
      have hne_S : ∀ b ∈ f_S, b ≠ EB := fun b hb' => by have := r_S.lt _ b hb'; omega
      clear hEB
      replace Y0 := za Y0 hy0 hb
      replace hy0 := zc4 hy0 hb.size
      replace Y2 := za Y2 hy2 hb
      replace hy2 := zc4 hy2 hb.size
      replace r_S := r_S.below hb
      replace fr_S := fr_S.below hb
      replace hW := hW.trans (hb.mono hW.size)
      replace hY := hY.trans (hb.mono hY.size)
      clear hb
      generalize yH7.alloc (.cells #[.string ⟨#[]⟩, .slice none 0 0, .string ⟨#[]⟩, .slice none 0 0] 39) = yH9 at *
      replace hF : (fun U : World => U.cell? ⟨w.heap.size, 0, none⟩ = some (.slice a0A0 x0.syms.length c0A0) ∧ U.cell? ⟨w.heap.size + 1, 0, none⟩ = some (.int .i64 x2.rule) ∧ U.cell? ⟨w.heap.size + 1, 1, none⟩ = some (.int .i64 x2.n) ∧ U.cell? ⟨w.heap.size + 1, 2, none⟩ = some (.string x2.t.name) ∧ U.cell? ⟨w.heap.size + 1, 3, none⟩ = some (.slice a3A2 x2.t.kids.length c3A2) ∧ U.cell? ⟨w.heap.size + 1, 4, none⟩ = some (.slice a4A2 x2.kids.length c4A2)) _ := ⟨(by have h := Y0 0; simp only [zc3, zc1, zc2] at h; exact h), (by have h := Y2 0; simp only [zc3, zc1, zc2] at h; exact h), (by have h := Y2 1; simp only [zc3, zc1, zc2] at h; exact h), (by have h := Y2 2; simp only [zc3, zc1, zc2] at h; exact h), (by have h := Y2 3; simp only [zc3, zc1, zc2] at h; exact h), (by have h := Y2 4; simp only [zc3, zc1, zc2] at h; exact h)⟩
      refine hK.out _ _ hF ?_
      clear hK
      try simp only [Act.put, zcY, zcZ, zc0]
      have m0 := hE 0; have n0 := hEf 0
      have m1 := hE 1; have n1 := hEf 1
      have m2 := hE 2; have n2 := hEf 2
      have m3 := hE 3; have n3 := hEf 3
      simp only [zc3, zc1, zc2] at m0 m1 m2 m3
      refine Ever.one (i := 11) (by kernel_rfl) rfl (fun J9 hK => ?_)
      go_simp
      have gE := zq (b := EB) [(0, .string ((whyT x0 x1 x2).getD Eqn.zero).a.name), (1, .slice a1S ((whyT x0 x1 x2).getD Eqn.zero).a.kids.length c1S), (2, .string ((whyT x0 x1 x2).getD Eqn.zero).b.name), (3, .slice a3S ((whyT x0 x1 x2).getD Eqn.zero).b.kids.length c3S)] (l := [.string ⟨#[]⟩, .slice none 0 0, .string ⟨#[]⟩, .slice none 0 0]) hE (by simp)
      have gh : ∀ c, c ≠ EB → (zF EB [(0, .string ((whyT x0 x1 x2).getD Eqn.zero).a.name), (1, .slice a1S ((whyT x0 x1 x2).getD Eqn.zero).a.kids.length c1S), (2, .string ((whyT x0 x1 x2).getD Eqn.zero).b.name), (3, .slice a3S ((whyT x0 x1 x2).getD Eqn.zero).b.kids.length c3S)] yH9).heap[c]? = yH9.heap[c]? := fun c hc => zK hc _ _
      have gW := zn (b := EB) hEW [(0, .string ((whyT x0 x1 x2).getD Eqn.zero).a.name), (1, .slice a1S ((whyT x0 x1 x2).getD Eqn.zero).a.kids.length c1S), (2, .string ((whyT x0 x1 x2).getD Eqn.zero).b.name), (3, .slice a3S ((whyT x0 x1 x2).getD Eqn.zero).b.kids.length c3S)] hW
      have gl : EB < (zF EB [(0, .string ((whyT x0 x1 x2).getD Eqn.zero).a.name), (1, .slice a1S ((whyT x0 x1 x2).getD Eqn.zero).a.kids.length c1S), (2, .string ((whyT x0 x1 x2).getD Eqn.zero).b.name), (3, .slice a3S ((whyT x0 x1 x2).getD Eqn.zero).b.kids.length c3S)] yH9).heap.size := zc4 hEl (zn (b := EB) (B := 0) (Nat.zero_le _) [(0, .string ((whyT x0 x1 x2).getD Eqn.zero).a.name), (1, .slice a1S ((whyT x0 x1 x2).getD Eqn.zero).a.kids.length c1S), (2, .string ((whyT x0 x1 x2).getD Eqn.zero).b.name), (3, .slice a3S ((whyT x0 x1 x2).getD Eqn.zero).b.kids.length c3S)] (Below.refl 0 yH9)).size
      simp only [zF, zQ, zcZ, zc0] at gE gh gW gl
      have gs : SameOn f_S _ _ := fun b hb => gh b (hne_S b hb)
      replace r_S := r_S.same _ gs
      replace fr_S := fr_S.same gs
      clear gs
      replace Y0 := zl Y0 (gh _ hne0)
      replace Y2 := zl Y2 (gh _ hne2)
      clear hW hY hE hEf m0 n0 m1 n1 m2 n2 m3 n3
      replace hF : (fun U : World => U.cell? ⟨w.heap.size, 0, none⟩ = some (.slice a0A0 x0.syms.length c0A0) ∧ U.cell? ⟨w.heap.size + 1, 0, none⟩ = some (.int .i64 x2.rule) ∧ U.cell? ⟨w.heap.size + 1, 1, none⟩ = some (.int .i64 x2.n) ∧ U.cell? ⟨w.heap.size + 1, 2, none⟩ = some (.string x2.t.name) ∧ U.cell? ⟨w.heap.size + 1, 3, none⟩ = some (.slice a3A2 x2.t.kids.length c3A2) ∧ U.cell? ⟨w.heap.size + 1, 4, none⟩ = some (.slice a4A2 x2.kids.length c4A2)) _ := ⟨(by have h := Y0 0; simp only [zc3, zc1, zc2] at h; exact h), (by have h := Y2 0; simp only [zc3, zc1, zc2] at h; exact h), (by have h := Y2 1; simp only [zc3, zc1, zc2] at h; exact h), (by have h := Y2 2; simp only [zc3, zc1, zc2] at h; exact h), (by have h := Y2 3; simp only [zc3, zc1, zc2] at h; exact h), (by have h := Y2 4; simp only [zc3, zc1, zc2] at h; exact h)⟩
      refine hK.out _ _ hF ?_
      clear hK
      try simp only [Act.put, zcY, zcZ, zc0]
      refine Ever.one (i := 12) (by kernel_rfl) rfl (fun J9 hK => ?_)
      go_simp
      refine hK.out _ _ hF ?_
      clear hK
      try simp only [Act.put, zcY, zcZ, zc0]
      refine Ever.done (by kernel_rfl) ?_ _
      go_wp2_with fail
      go_meet
      case rel => exact ⟨EB, _, _, _, _, _, rfl, rfl, gE, gl, r_S, fr_S, gW⟩
     ·go_simp
      have hE := zp yH5 #[.string ⟨#[]⟩, .slice none 0 0, .string ⟨#[]⟩, .slice none 0 0] 39
      have hEf := zO yH5 #[.string ⟨#[]⟩, .slice none 0 0, .string ⟨#[]⟩, .slice none 0 0] 39
      have hEl : yH5.heap.size < (yH5.alloc (.cells #[.string ⟨#[]⟩, .slice none 0 0, .string ⟨#[]⟩, .slice none 0 0] 39)).heap.size := by simp
      have hb := zb yH5 (.cells #[.string ⟨#[]⟩, .slice none 0 0, .string ⟨#[]⟩, .slice none 0 0] 39)
      obtain ⟨EB, hEB⟩ : ∃ B, B = yH5.heap.size := ⟨_, rfl⟩
      rw [← hEB] at hE hEf hEl ⊢
      have hEW : wh3.heap.size ≤ EB := by have := hW.size; omega
      have hne0 : w.heap.size ≠ EB := by have := hy0; omega
      have hne2 : w.heap.size + 1 ≠ EB := by have := hy2; omega
      clear hEB
      replace Y0 := za Y0 hy0 hb
      replace hy0 := zc4 hy0 hb.size
      replace Y2 := za Y2 hy2 hb
      replace hy2 := zc4 hy2 hb.size
      replace sr0 := sr0.below hb
      replace sr1 := sr1.below hb
      replace sr2 := sr2.below hb
      replace hW := hW.trans (hb.mono hW.size)
      replace hY := hY.trans (hb.mono hY.size)
      clear hb
      generalize yH5.alloc (.cells #[.string ⟨#[]⟩, .slice none 0 0, .string ⟨#[]⟩, .slice none 0 0] 39) = yH8 at *
      replace hF : (fun U : World => U.cell? ⟨w.heap.size, 0, none⟩ = some (.slice a0A0 x0.syms.length c0A0) ∧ U.cell? ⟨w.heap.size + 1, 0, none⟩ = some (.int .i64 x2.rule) ∧ U.cell? ⟨w.heap.size + 1, 1, none⟩ = some (.int .i64 x2.n) ∧ U.cell? ⟨w.heap.size + 1, 2, none⟩ = some (.string x2.t.name) ∧ U.cell? ⟨w.heap.size + 1, 3, none⟩ = some (.slice a3A2 x2.t.kids.length c3A2) ∧ U.cell? ⟨w.heap.size + 1, 4, none⟩ = some (.slice a4A2 x2.kids.length c4A2)) _ := ⟨(by have h := Y0 0; simp only [zc3, zc1, zc2] at h; exact h), (by have h := Y2 0; simp only [zc3, zc1, zc2] at h; exact h), (by have h := Y2 1; simp only [zc3, zc1, zc2] at h; exact h), (by have h := Y2 2; simp only [zc3, zc1, zc2] at h; exact h), (by have h := Y2 3; simp only [zc3, zc1, zc2] at h; exact h), (by have h := Y2 4; simp only [zc3, zc1, zc2] at h; exact h)⟩
      refine hK.out _ _ hF ?_
      clear hK
      try simp only [Act.put, zcY, zcZ, zc0]
      refine Ever.one (i := 6) (by kernel_rfl) rfl (fun J9 hK => ?_)
      go_simp
      go_wp2_with (go_at_call 11; refine (zU x0 x1 x2 _ _ _ _ _ _ _ (zL hbig1) (by omega) (Wy.thin_of _ x2 (Nat.le_refl _) hbig2) (by exact sr0) (by exact sr1) (by exact sr2)).mono ?_; rintro e yH10 ⟨vS, f_S, rfl, r_S, fr_S, hb⟩)
      have r_S' := r_S
      obtain ⟨a1S, c1S, f1S, a3S, c3S, f3S, rfl, _, _, _, _, _⟩ := Eqn.open r_S'
      have hne_S : ∀ b ∈ f_S, b ≠ EB := fun b hb' => by have := (fr_S.2 b hb').1; omega
      replace fr_S := fr_S.mono (lo' := wh3.heap.size) (by have := hW.size; omega)
      replace Y0 := za Y0 hy0 hb
      replace hy0 := zc4 hy0 hb.size
      replace Y2 := za Y2 hy2 hb
      replace hy2 := zc4 hy2 hb.size
      replace hE := za hE hEl hb
      replace hEf := fun j => (zj (hb.block _ hEl)).trans (hEf j)
      replace hEl := zc4 hEl hb.size
      replace hW := hW.trans (hb.mono hW.size)
      replace hY := hY.trans (hb.mono hY.size)
      clear hb
      replace hF : (fun U : World => U.cell? ⟨w.heap.size, 0, none⟩ = some (.slice a0A0 x0.syms.length c0A0) ∧ U.cell? ⟨w.heap.size + 1, 0, none⟩ = some (.int .i64 x2.rule) ∧ U.cell? ⟨w.heap.size + 1, 1, none⟩ = some (.int .i64 x2.n) ∧ U.cell? ⟨w.heap.size + 1, 2, none⟩ = some (.string x2.t.name) ∧ U.cell? ⟨w.heap.size + 1, 3, none⟩ = some (.slice a3A2 x2.t.kids.length c3A2) ∧ U.cell? ⟨w.heap.size + 1, 4, none⟩ = some (.slice a4A2 x2.kids.length c4A2)) _ := ⟨(by have h := Y0 0; simp only [zc3, zc1, zc2] at h; exact h), (by have h := Y2 0; simp only [zc3, zc1, zc2] at h; exact h), (by have h := Y2 1; simp only [zc3, zc1, zc2] at h; exact h), (by have h := Y2 2; simp only [zc3, zc1, zc2] at h; exact h), (by have h := Y2 3; simp only [zc3, zc1, zc2] at h; exact h), (by have h := Y2 4; simp only [zc3, zc1, zc2] at h; exact h)⟩
      refine hK.out _ _ hF ?_
      clear hK
      try simp only [Act.put, zcY, zcZ, zc0]
      refine Ever.take (i := 7) (v := (.tuple #[.agg #[.string ((whyT x0 x1 x2).getD Eqn.zero).a.name, .slice a1S ((whyT x0 x1 x2).getD Eqn.zero).a.kids.length c1S, .string ((whyT x0 x1 x2).getD Eqn.zero).b.name, .slice a3S ((whyT x0 x1 x2).getD Eqn.zero).b.kids.length c3S], .bool ((whyT x0 x1 x2).isSome)])) rfl (by kernel_rfl) (by kernel_rfl) (by kernel_rfl) (fun _ _ _ h => h) (Or.inl ⟨by rfl, fun U hU => ?_⟩) hF ?_
      ·obtain ⟨l0_0F, l2_0F, l2_1F, l2_2F, l2_3F, l2_4F⟩ := hU
       go_simp
      try simp only [Act.put, zcY, zcZ, zc0]
      refine Ever.take (i := 8) (v := (.agg #[.string ((whyT x0 x1 x2).getD Eqn.zero).a.name, .slice a1S ((whyT x0 x1 x2).getD Eqn.zero).a.kids.length c1S, .string ((whyT x0 x1 x2).getD Eqn.zero).b.name, .slice a3S ((whyT x0 x1 x2).getD Eqn.zero).b.kids.length c3S])) rfl (by kernel_rfl) (by kernel_rfl) (by kernel_rfl) (fun _ _ _ h => h) (Or.inl ⟨by rfl, fun U hU => ?_⟩) hF ?_
      ·obtain ⟨l0_0F, l2_0F, l2_1F, l2_2F, l2_3F, l2_4F⟩ := hU
       go_simp
      try simp only [Act.put, zcY, zcZ, zc0]
      refine Ever.take (i := 9) (v := (.bool ((whyT x0 x1 x2).isSome))) rfl (by kernel_rfl) (by kernel_rfl) (by kernel_rfl) (fun _ _ _ h => h) (Or.inl ⟨by rfl, fun U hU => ?_⟩) hF ?_
      ·obtain ⟨l0_0F, l2_0F, l2_1F, l2_2F, l2_3F, l2_4F⟩ := hU
       go_simp
      try simp only [Act.put, zcY, zcZ, zc0]
      have m0 := hE 0; have n0 := hEf 0
      have m1 := hE 1; have n1 := hEf 1
      have m2 := hE 2; have n2 := hEf 2
      have m3 := hE 3; have n3 := hEf 3
      simp only [zc3, zc1, zc2] at m0 m1 m2 m3
      refine Ever.one (i := 11) (by kernel_rfl) rfl (fun J9 hK => ?_)
      go_simp
      have gE := zq (b := EB) [(0, .string ((whyT x0 x1 x2).getD Eqn.zero).a.name), (1, .slice a1S ((whyT x0 x1 x2).getD Eqn.zero).a.kids.length c1S), (2, .string ((whyT x0 x1 x2).getD Eqn.zero).b.name), (3, .slice a3S ((whyT x0 x1 x2).getD Eqn.zero).b.kids.length c3S)] (l := [.string ⟨#[]⟩, .slice none 0 0, .string ⟨#[]⟩, .slice none 0 0]) hE (by simp)
      have gh : ∀ c, c ≠ EB → (zF EB [(0, .string ((whyT x0 x1 x2).getD Eqn.zero).a.name), (1, .slice a1S ((whyT x0 x1 x2).getD Eqn.zero).a.kids.length c1S), (2, .string ((whyT x0 x1 x2).getD Eqn.zero).b.name), (3, .slice a3S ((whyT x0 x1 x2).getD Eqn.zero).b.kids.length c3S)] yH10).heap[c]? = yH10.heap[c]? := fun c hc => zK hc _ _
      have gW := zn (b := EB) hEW [(0, .string ((whyT x0 x1 x2).getD Eqn.zero).a.name), (1, .slice a1S ((whyT x0 x1 x2).getD Eqn.zero).a.kids.length c1S), (2, .string ((whyT x0 x1 x2).getD Eqn.zero).b.name), (3, .slice a3S ((whyT x0 x1 x2).getD Eqn.zero).b.kids.length c3S)] hW
      have gl : EB < (zF EB [(0, .string ((whyT x0 x1 x2).getD Eqn.zero).a.name), (1, .slice a1S ((whyT x0 x1 x2).getD Eqn.zero).a.kids.length c1S), (2, .string ((whyT x0 x1 x2).getD Eqn.zero).b.name), (3, .slice a3S ((whyT x0 x1 x2).getD Eqn.zero).b.kids.length c3S)] yH10).heap.size := zc4 hEl (zn (b := EB) (B := 0) (Nat.zero_le _) [(0, .string ((whyT x0 x1 x2).getD Eqn.zero).a.name), (1, .slice a1S ((whyT x0 x1 x2).getD Eqn.zero).a.kids.length c1S), (2, .string ((whyT x0 x1 x2).getD Eqn.zero).b.name), (3, .slice a3S ((whyT x0 x1 x2).getD Eqn.zero).b.kids.length c3S)] (Below.refl 0 yH10)).size
      simp only [zF, zQ, zcZ, zc0] at gE gh gW gl
      have gs : SameOn f_S _ _ := fun b hb => gh b (hne_S b hb)
      replace r_S := r_S.same _ gs
      replace fr_S := fr_S.same gs
      clear gs
      replace Y0 := zl Y0 (gh _ hne0)
      replace Y2 := zl Y2 (gh _ hne2)
      clear hW hY hE hEf m0 n0 m1 n1 m2 n2 m3 n3
      replace hF : (fun U : World => U.cell? ⟨w.heap.size, 0, none⟩ = some (.slice a0A0 x0.syms.length c0A0) ∧ U.cell? ⟨w.heap.size + 1, 0, none⟩ = some (.int .i64 x2.rule) ∧ U.cell? ⟨w.heap.size + 1, 1, none⟩ = some (.int .i64 x2.n) ∧ U.cell? ⟨w.heap.size + 1, 2, none⟩ = some (.string x2.t.name) ∧ U.cell? ⟨w.heap.size + 1, 3, none⟩ = some (.slice a3A2 x2.t.kids.length c3A2) ∧ U.cell? ⟨w.heap.size + 1, 4, none⟩ = some (.slice a4A2 x2.kids.length c4A2)) _ := ⟨(by have h := Y0 0; simp only [zc3, zc1, zc2] at h; exact h), (by have h := Y2 0; simp only [zc3, zc1, zc2] at h; exact h), (by have h := Y2 1; simp only [zc3, zc1, zc2] at h; exact h), (by have h := Y2 2; simp only [zc3, zc1, zc2] at h; exact h), (by have h := Y2 3; simp only [zc3, zc1, zc2] at h; exact h), (by have h := Y2 4; simp only [zc3, zc1, zc2] at h; exact h)⟩
      refine hK.out _ _ hF ?_
      clear hK
      try simp only [Act.put, zcY, zcZ, zc0]
      refine Ever.one (i := 12) (by kernel_rfl) rfl (fun J9 hK => ?_)
      go_simp
      refine hK.out _ _ hF ?_
      clear hK
      try simp only [Act.put, zcY, zcZ, zc0]
      refine Ever.done (by kernel_rfl) ?_ _
      go_wp2_with fail
      go_meet
      case rel => exact ⟨EB, _, _, _, _, _, rfl, rfl, gE, gl, r_S, fr_S, gW⟩
    ·go_simp
     have hE := zp yH3 #[.string ⟨#[]⟩, .slice none 0 0, .string ⟨#[]⟩, .slice none 0 0] 39
     have hEf := zO yH3 #[.string ⟨#[]⟩, .slice none 0 0, .string ⟨#[]⟩, .slice none 0 0] 39
     have hEl : yH3.heap.size < (yH3.alloc (.cells #[.string ⟨#[]⟩, .slice none 0 0, .string ⟨#[]⟩, .slice none 0 0] 39)).heap.size := by simp
     have hb := zb yH3 (.cells #[.string ⟨#[]⟩, .slice none 0 0, .string ⟨#[]⟩, .slice none 0 0] 39)
     obtain ⟨EB, hEB⟩ : ∃ B, B = yH3.heap.size := ⟨_, rfl⟩
     rw [← hEB] at hE hEf hEl ⊢
     have hEW : wh3.heap.size ≤ EB := by have := hW.size; omega
     have hne0 : w.heap.size ≠ EB := by have := hy0; omega
     have hne2 : w.heap.size + 1 ≠ EB := by have := hy2; omega
     clear hEB
     replace Y0 := za Y0 hy0 hb
     replace hy0 := zc4 hy0 hb.size
     replace Y2 := za Y2 hy2 hb
     replace hy2 := zc4 hy2 hb.size
     replace sr0 := sr0.below hb
     replace sr1 := sr1.below hb
     replace hW := hW.trans (hb.mono hW.size)
     replace hY := hY.trans (hb.mono hY.size)
     clear hb
     generalize yH3.alloc (.cells #[.string ⟨#[]⟩, .slice none 0 0, .string ⟨#[]⟩, .slice none 0 0] 39) = yH6 at *
     replace hF : (fun U : World => U.cell? ⟨w.heap.size, 0, none⟩ = some (.slice a0A0 x0.syms.length c0A0) ∧ U.cell? ⟨w.heap.size + 1, 0, none⟩ = some (.int .i64 x2.rule) ∧ U.cell? ⟨w.heap.size + 1, 1, none⟩ = some (.int .i64 x2.n) ∧ U.cell? ⟨w.heap.size + 1, 2, none⟩ = some (.string x2.t.name) ∧ U.cell? ⟨w.heap.size + 1, 3, none⟩ = some (.slice a3A2 x2.t.kids.length c3A2) ∧ U.cell? ⟨w.heap.size + 1, 4, none⟩ = some (.slice a4A2 x2.kids.length c4A2)) _ := ⟨(by have h := Y0 0; simp only [zc3, zc1, zc2] at h; exact h), (by have h := Y2 0; simp only [zc3, zc1, zc2] at h; exact h), (by have h := Y2 1; simp only [zc3, zc1, zc2] at h; exact h), (by have h := Y2 2; simp only [zc3, zc1, zc2] at h; exact h), (by have h := Y2 3; simp only [zc3, zc1, zc2] at h; exact h), (by have h := Y2 4; simp only [zc3, zc1, zc2] at h; exact h)⟩
     refine hK.out _ _ hF ?_
     clear hK
     try simp only [Act.put, zcY, zcZ, zc0]
     refine Ever.one (i := 5) (by kernel_rfl) rfl (fun J9 hK => ?_)
     go_simp
     go_wp2_with (go_at_call 10; refine (zap x2 _ _ _ hbig2 (by exact hv2.below hY)).mono ?_; rintro e yH11 ⟨s2, sf2, rfl, sr2, sg2, hb⟩)
     replace Y0 := za Y0 hy0 hb
     replace hy0 := zc4 hy0 hb.size
     replace Y2 := za Y2 hy2 hb
     replace hy2 := zc4 hy2 hb.size
     replace sr0 := sr0.below hb
     replace sr1 := sr1.below hb
     replace hE := za hE hEl hb
     replace hEf := fun j => (zj (hb.block _ hEl)).trans (hEf j)
     replace hEl := zc4 hEl hb.size
     replace hW := hW.trans (hb.mono hW.size)
     replace hY := hY.trans (hb.mono hY.size)
     clear hb
     replace hF : (fun U : World => U.cell? ⟨w.heap.size, 0, none⟩ = some (.slice a0A0 x0.syms.length c0A0) ∧ U.cell? ⟨w.heap.size + 1, 0, none⟩ = some (.int .i64 x2.rule) ∧ U.cell? ⟨w.heap.size + 1, 1, none⟩ = some (.int .i64 x2.n) ∧ U.cell? ⟨w.heap.size + 1, 2, none⟩ = some (.string x2.t.name) ∧ U.cell? ⟨w.heap.size + 1, 3, none⟩ = some (.slice a3A2 x2.t.kids.length c3A2) ∧ U.cell? ⟨w.heap.size + 1, 4, none⟩ = some (.slice a4A2 x2.kids.length c4A2)) _ := ⟨(by have h := Y0 0; simp only [zc3, zc1, zc2] at h; exact h), (by have h := Y2 0; simp only [zc3, zc1, zc2] at h; exact h), (by have h := Y2 1; simp only [zc3, zc1, zc2] at h; exact h), (by have h := Y2 2; simp only [zc3, zc1, zc2] at h; exact h), (by have h := Y2 3; simp only [zc3, zc1, zc2] at h; exact h), (by have h := Y2 4; simp only [zc3, zc1, zc2] at h; exact h)⟩
     refine hK.out _ _ hF ?_
     clear hK
     try simp only [Act.put, zcY, zcZ, zc0]
     refine Ever.one (i := 6) (by kernel_rfl) rfl (fun J9 hK => ?_)
     go_simp
     go_wp2_with (go_at_call 11; refine (zU x0 x1 x2 _ _ _ _ _ _ _ (zL hbig1) (by omega) (Wy.thin_of _ x2 (Nat.le_refl _) hbig2) (by exact sr0) (by exact sr1) (by exact sr2)).mono ?_; rintro e yH12 ⟨vS, f_S, rfl, r_S, fr_S, hb⟩)
     have r_S' := r_S
     obtain ⟨a1S, c1S, f1S, a3S, c3S, f3S, rfl, _, _, _, _, _⟩ := Eqn.open r_S'
     have hne_S : ∀ b ∈ f_S, b ≠ EB := fun b hb' => by have := (fr_S.2 b hb').1; omega
     replace fr_S := fr_S.mono (lo' := wh3.heap.size) (by have := hW.size; omega)
     replace Y0 := za Y0 hy0 hb
     replace hy0 := zc4 hy0 hb.size
     replace Y2 := za Y2 hy2 hb
     replace hy2 := zc4 hy2 hb.size
     replace hE := za hE hEl hb
     replace hEf := fun j => (zj (hb.block _ hEl)).trans (hEf j)
     replace hEl := zc4 hEl hb.size
     replace hW := hW.trans (hb.mono hW.size)
     replace hY := hY.trans (hb.mono hY.size)
     clear hb
     replace hF : (fun U : World => U.cell? ⟨w.heap.size, 0, none⟩ = some (.slice a0A0 x0.syms.length c0A0) ∧ U.cell? ⟨w.heap.size + 1, 0, none⟩ = some (.int .i64 x2.rule) ∧ U.cell? ⟨w.heap.size + 1, 1, none⟩ = some (.int .i64 x2.n) ∧ U.cell? ⟨w.heap.size + 1, 2, none⟩ = some (.string x2.t.name) ∧ U.cell? ⟨w.heap.size + 1, 3, none⟩ = some (.slice a3A2 x2.t.kids.length c3A2) ∧ U.cell? ⟨w.heap.size + 1, 4, none⟩ = some (.slice a4A2 x2.kids.length c4A2)) _ := ⟨(by have h := Y0 0; simp only [zc3, zc1, zc2] at h; exact h), (by have h := Y2 0; simp only [zc3, zc1, zc2] at h; exact h), (by have h := Y2 1; simp only [zc3, zc1, zc2] at h; exact h), (by have h := Y2 2; simp only [zc3, zc1, zc2] at h; exact h), (by have h := Y2 3; simp only [zc3, zc1, zc2] at h; exact h), (by have h := Y2 4; simp only [zc3, zc1, zc2] at h; exact h)⟩
     refine hK.out _ _ hF ?_
     clear hK
     try simp only [Act.put, zcY, zcZ, zc0]
     refine Ever.take (i := 7) (v := (.tuple #[.agg #[.string ((whyT x0 x1 x2).getD Eqn.zero).a.name, .slice a1S ((whyT x0 x1 x2).getD Eqn.zero).a.kids.length c1S, .string ((whyT x0 x1 x2).getD Eqn.zero).b.name, .slice a3S ((whyT x0 x1 x2).getD Eqn.zero).b.kids.length c3S], .bool ((whyT x0 x1 x2).isSome)])) rfl (by kernel_rfl) (by kernel_rfl) (by kernel_rfl) (fun _ _ _ h => h) (Or.inl ⟨by rfl, fun U hU => ?_⟩) hF ?_
     ·obtain ⟨l0_0F, l2_0F, l2_1F, l2_2F, l2_3F, l2_4F⟩ := hU
      go_simp
     try simp only [Act.put, zcY, zcZ, zc0]
     refine Ever.take (i := 8) (v := (.agg #[.string ((whyT x0 x1 x2).getD Eqn.zero).a.name, .slice a1S ((whyT x0 x1 x2).getD Eqn.zero).a.kids.length c1S, .string ((whyT x0 x1 x2).getD Eqn.zero).b.name, .slice a3S ((whyT x0 x1 x2).getD Eqn.zero).b.kids.length c3S])) rfl (by kernel_rfl) (by kernel_rfl) (by kernel_rfl) (fun _ _ _ h => h) (Or.inl ⟨by rfl, fun U hU => ?_⟩) hF ?_
     ·obtain ⟨l0_0F, l2_0F, l2_1F, l2_2F, l2_3F, l2_4F⟩ := hU
      go_simp
     try simp only [Act.put, zcY, zcZ, zc0]
     refine Ever.take (i := 9) (v := (.bool ((whyT x0 x1 x2).isSome))) rfl (by kernel_rfl) (by kernel_rfl) (by kernel_rfl) (fun _ _ _ h => h) (Or.inl ⟨by rfl, fun U hU => ?_⟩) hF ?_
     ·obtain ⟨l0_0F, l2_0F, l2_1F, l2_2F, l2_3F, l2_4F⟩ := hU
      go_simp
     try simp only [Act.put, zcY, zcZ, zc0]
     have m0 := hE 0; have n0 := hEf 0
     have m1 := hE 1; have n1 := hEf 1
     have m2 := hE 2; have n2 := hEf 2
     have m3 := hE 3; have n3 := hEf 3
     simp only [zc3, zc1, zc2] at m0 m1 m2 m3
     refine Ever.one (i := 11) (by kernel_rfl) rfl (fun J9 hK => ?_)
     go_simp
     have gE := zq (b := EB) [(0, .string ((whyT x0 x1 x2).getD Eqn.zero).a.name), (1, .slice a1S ((whyT x0 x1 x2).getD Eqn.zero).a.kids.length c1S), (2, .string ((whyT x0 x1 x2).getD Eqn.zero).b.name), (3, .slice a3S ((whyT x0 x1 x2).getD Eqn.zero).b.kids.length c3S)] (l := [.string ⟨#[]⟩, .slice none 0 0, .string ⟨#[]⟩, .slice none 0 0]) hE (by simp)
     have gh : ∀ c, c ≠ EB → (zF EB [(0, .string ((whyT x0 x1 x2).getD Eqn.zero).a.name), (1, .slice a1S ((whyT x0 x1 x2).getD Eqn.zero).a.kids.length c1S), (2, .string ((whyT x0 x1 x2).getD Eqn.zero).b.name), (3, .slice a3S ((whyT x0 x1 x2).getD Eqn.zero).b.kids.length c3S)] yH12).heap[c]? = yH12.heap[c]? := fun c hc => zK hc _ _
     have gW := zn (b := EB) hEW [(0, .string ((whyT x0 x1 x2).getD Eqn.zero).a.name), (1, .slice a1S ((whyT x0 x1 x2).getD Eqn.zero).a.kids.length c1S), (2, .string ((whyT x0 x1 x2).getD Eqn.zero).b.name), (3, .slice a3S ((whyT x0 x1 x2).getD Eqn.zero).b.kids.length c3S)] hW
     have gl : EB < (zF EB [(0, .string ((whyT x0 x1 x2).getD Eqn.zero).a.name), (1, .slice a1S ((whyT x0 x1 x2).getD Eqn.zero).a.kids.length c1S), (2, .string ((whyT x0 x1 x2).getD Eqn.zero).b.name), (3, .slice a3S ((whyT x0 x1 x2).getD Eqn.zero).b.kids.length c3S)] yH12).heap.size := zc4 hEl (zn (b := EB) (B := 0) (Nat.zero_le _) [(0, .string ((whyT x0 x1 x2).getD Eqn.zero).a.name), (1, .slice a1S ((whyT x0 x1 x2).getD Eqn.zero).a.kids.length c1S), (2, .string ((whyT x0 x1 x2).getD Eqn.zero).b.name), (3, .slice a3S ((whyT x0 x1 x2).getD Eqn.zero).b.kids.length c3S)] (Below.refl 0 yH12)).size
     simp only [zF, zQ, zcZ, zc0] at gE gh gW gl
     have gs : SameOn f_S _ _ := fun b hb => gh b (hne_S b hb)
     replace r_S := r_S.same _ gs
     replace fr_S := fr_S.same gs
     clear gs
     replace Y0 := zl Y0 (gh _ hne0)
     replace Y2 := zl Y2 (gh _ hne2)
     clear hW hY hE hEf m0 n0 m1 n1 m2 n2 m3 n3
     replace hF : (fun U : World => U.cell? ⟨w.heap.size, 0, none⟩ = some (.slice a0A0 x0.syms.length c0A0) ∧ U.cell? ⟨w.heap.size + 1, 0, none⟩ = some (.int .i64 x2.rule) ∧ U.cell? ⟨w.heap.size + 1, 1, none⟩ = some (.int .i64 x2.n) ∧ U.cell? ⟨w.heap.size + 1, 2, none⟩ = some (.string x2.t.name) ∧ U.cell? ⟨w.heap.size + 1, 3, none⟩ = some (.slice a3A2 x2.t.kids.length c3A2) ∧ U.cell? ⟨w.heap.size + 1, 4, none⟩ = some (.slice a4A2 x2.kids.length c4A2)) _ := ⟨(by have h := Y0 0; simp only [zc3, zc1, zc2] at h; exact h), (by have h := Y2 0; simp only [zc3, zc1, zc2] at h; exact h), (by have h := Y2 1; simp only [zc3, zc1, zc2] at h; exact h), (by have h := Y2 2; simp only [zc3, zc1, zc2] at h; exact h), (by have h := Y2 3; simp only [zc3, zc1, zc2] at h; exact h), (by have h := Y2 4; simp only [zc3, zc1, zc2] at h; exact h)⟩
     refine hK.out _ _ hF ?_
     clear hK
     try simp only [Act.put, zcY, zcZ, zc0]
     refine Ever.one (i := 12) (by kernel_rfl) rfl (fun J9 hK => ?_)
     go_simp
     refine hK.out _ _ hF ?_
     clear hK
     try simp only [Act.put, zcY, zcZ, zc0]
     refine Ever.done (by kernel_rfl) ?_ _
     go_wp2_with fail
     go_meet
     case rel => exact ⟨EB, _, _, _, _, _, rfl, rfl, gE, gl, r_S, fr_S, gW⟩
   ·go_simp
    have hE := zp yH1 #[.string ⟨#[]⟩, .slice none 0 0, .string ⟨#[]⟩, .slice none 0 0] 39
    have hEf := zO yH1 #[.string ⟨#[]⟩, .slice none 0 0, .string ⟨#[]⟩, .slice none 0 0] 39
    have hEl : yH1.heap.size < (yH1.alloc (.cells #[.string ⟨#[]⟩, .slice none 0 0, .string ⟨#[]⟩, .slice none 0 0] 39)).heap.size := by simp
    have hb := zb yH1 (.cells #[.string ⟨#[]⟩, .slice none 0 0, .string ⟨#[]⟩, .slice none 0 0] 39)
    obtain ⟨EB, hEB⟩ : ∃ B, B = yH1.heap.size := ⟨_, rfl⟩
    rw [← hEB] at hE hEf hEl ⊢
    have hEW : wh3.heap.size ≤ EB := by have := hW.size; omega
    have hne0 : w.heap.size ≠ EB := by have := hy0; omega
    have hne2 : w.heap.size + 1 ≠ EB := by have := hy2; omega
    clear hEB
    replace Y0 := za Y0 hy0 hb
    replace hy0 := zc4 hy0 hb.size
    replace Y2 := za Y2 hy2 hb
    replace hy2 := zc4 hy2 hb.size
    replace sr0 := sr0.below hb
    replace hW := hW.trans (hb.mono hW.size)
    replace hY := hY.trans (hb.mono hY.size)
    clear hb
    generalize yH1.alloc (.cells #[.string ⟨#[]⟩, .slice none 0 0, .string ⟨#[]⟩, .slice none 0 0] 39) = yH4 at *
    replace hF : (fun U : World => U.cell? ⟨w.heap.size, 0, none⟩ = some (.slice a0A0 x0.syms.length c0A0) ∧ U.cell? ⟨w.heap.size + 1, 0, none⟩ = some (.int .i64 x2.rule) ∧ U.cell? ⟨w.heap.size + 1, 1, none⟩ = some (.int .i64 x2.n) ∧ U.cell? ⟨w.heap.size + 1, 2, none⟩ = some (.string x2.t.name) ∧ U.cell? ⟨w.heap.size + 1, 3, none⟩ = some (.slice a3A2 x2.t.kids.length c3A2) ∧ U.cell? ⟨w.heap.size + 1, 4, none⟩ = some (.slice a4A2 x2.kids.length c4A2)) _ := ⟨(by have h := Y0 0; simp only [zc3, zc1, zc2] at h; exact h), (by have h := Y2 0; simp only [zc3, zc1, zc2] at h; exact h), (by have h := Y2 1; simp only [zc3, zc1, zc2] at h; exact h), (by have h := Y2 2; simp only [zc3, zc1, zc2] at h; exact h), (by have h := Y2 3; simp only [zc3, zc1, zc2] at h; exact h), (by have h := Y2 4; simp only [zc3, zc1, zc2] at h; exact h)⟩
    refine hK.out _ _ hF ?_
    clear hK
    try simp only [Act.put, zcY, zcZ, zc0]
    refine Ever.one (i := 3) (by kernel_rfl) rfl (fun J9 hK => ?_)
    go_simp
    go_wp2_with (go_at_call 9; refine (zaA x1 _ _ _ hbig1 (by exact hv1.below hY)).mono ?_; rintro e yH13 ⟨s1, sf1, rfl, sr1, sg1, hb⟩)
    replace Y0 := za Y0 hy0 hb
    replace hy0 := zc4 hy0 hb.size
    replace Y2 := za Y2 hy2 hb
    replace hy2 := zc4 hy2 hb.size
    replace sr0 := sr0.below hb
    replace hE := za hE hEl hb
    replace hEf := fun j => (zj (hb.block _ hEl)).trans (hEf j)
    replace hEl := zc4 hEl hb.size
    replace hW := hW.trans (hb.mono hW.size)
    replace hY := hY.trans (hb.mono hY.size)
    clear hb
    replace hF : (fun U : World => U.cell? ⟨w.heap.size, 0, none⟩ = some (.slice a0A0 x0.syms.length c0A0) ∧ U.cell? ⟨w.heap.size + 1, 0, none⟩ = some (.int .i64 x2.rule) ∧ U.cell? ⟨w.heap.size + 1, 1, none⟩ = some (.int .i64 x2.n) ∧ U.cell? ⟨w.heap.size + 1, 2, none⟩ = some (.string x2.t.name) ∧ U.cell? ⟨w.heap.size + 1, 3, none⟩ = some (.slice a3A2 x2.t.kids.length c3A2) ∧ U.cell? ⟨w.heap.size + 1, 4, none⟩ = some (.slice a4A2 x2.kids.length c4A2)) _ := ⟨(by have h := Y0 0; simp only [zc3, zc1, zc2] at h; exact h), (by have h := Y2 0; simp only [zc3, zc1, zc2] at h; exact h), (by have h := Y2 1; simp only [zc3, zc1, zc2] at h; exact h), (by have h := Y2 2; simp only [zc3, zc1, zc2] at h; exact h), (by have h := Y2 3; simp only [zc3, zc1, zc2] at h; exact h), (by have h := Y2 4; simp only [zc3, zc1, zc2] at h; exact h)⟩
    refine hK.out _ _ hF ?_
    clear hK
    try simp only [Act.put, zcY, zcZ, zc0]
    refine Ever.one (i := 5) (by kernel_rfl) rfl (fun J9 hK => ?_)
    go_simp
    go_wp2_with (go_at_call 10; refine (zap x2 _ _ _ hbig2 (by exact hv2.below hY)).mono ?_; rintro e yH14 ⟨s2, sf2, rfl, sr2, sg2, hb⟩)
    replace Y0 := za Y0 hy0 hb
    replace hy0 := zc4 hy0 hb.size
    replace Y2 := za Y2 hy2 hb
    replace hy2 := zc4 hy2 hb.size
    replace sr0 := sr0.below hb
    replace sr1 := sr1.below hb
    replace hE := za hE hEl hb
    replace hEf := fun j => (zj (hb.block _ hEl)).trans (hEf j)
    replace hEl := zc4 hEl hb.size
    replace hW := hW.trans (hb.mono hW.size)
    replace hY := hY.trans (hb.mono hY.size)
    clear hb
    replace hF : (fun U : World => U.cell? ⟨w.heap.size, 0, none⟩ = some (.slice a0A0 x0.syms.length c0A0) ∧ U.cell? ⟨w.heap.size + 1, 0, none⟩ = some (.int .i64 x2.rule) ∧ U.cell? ⟨w.heap.size + 1, 1, none⟩ = some (.int .i64 x2.n) ∧ U.cell? ⟨w.heap.size + 1, 2, none⟩ = some (.string x2.t.name) ∧ U.cell? ⟨w.heap.size + 1, 3, none⟩ = some (.slice a3A2 x2.t.kids.length c3A2) ∧ U.cell? ⟨w.heap.size + 1, 4, none⟩ = some (.slice a4A2 x2.kids.length c4A2)) _ := ⟨(by have h := Y0 0; simp only [zc3, zc1, zc2] at h; exact h), (by have h := Y2 0; simp only [zc3, zc1, zc2] at h; exact h), (by have h := Y2 1; simp only [zc3, zc1, zc2] at h; exact h), (by have h := Y2 2; simp only [zc3, zc1, zc2] at h; exact h), (by have h := Y2 3; simp only [zc3, zc1, zc2] at h; exact h), (by have h := Y2 4; simp only [zc3, zc1, zc2] at h; exact h)⟩
    refine hK.out _ _ hF ?_
    clear hK
    try simp only [Act.put, zcY, zcZ, zc0]
    refine Ever.one (i := 6) (by kernel_rfl) rfl (fun J9 hK => ?_)
    go_simp
    go_wp2_with (go_at_call 11; refine (zU x0 x1 x2 _ _ _ _ _ _ _ (zL hbig1) (by omega) (Wy.thin_of _ x2 (Nat.le_refl _) hbig2) (by exact sr0) (by exact sr1) (by exact sr2)).mono ?_; rintro e yH15 ⟨vS, f_S, rfl, r_S, fr_S, hb⟩)
    have r_S' := r_S
    obtain ⟨a1S, c1S, f1S, a3S, c3S, f3S, rfl, _, _, _, _, _⟩ := Eqn.open r_S'
    have hne_S : ∀ b ∈ f_S, b ≠ EB := fun b hb' => by have := (fr_S.2 b hb').1; omega
    replace fr_S := fr_S.mono (lo' := wh3.heap.size) (by have := hW.size; omega)
    replace Y0 := za Y0 hy0 hb
    replace hy0 := zc4 hy0 hb.size
    replace Y2 := za Y2 hy2 hb
    replace hy2 := zc4 hy2 hb.size
    replace hE := za hE hEl hb
    replace hEf := fun j => (zj (hb.block _ hEl)).trans (hEf j)
    replace hEl := zc4 hEl hb.size
    replace hW := hW.trans (hb.mono hW.size)
    replace hY := hY.trans (hb.mono hY.size)
    clear hb
    replace hF : (fun U : World => U.cell? ⟨w.heap.size, 0, none⟩ = some (.slice a0A0 x0.syms.length c0A0) ∧ U.cell? ⟨w.heap.size + 1, 0, none⟩ = some (.int .i64 x2.rule) ∧ U.cell? ⟨w.heap.size + 1, 1, none⟩ = some (.int .i64 x2.n) ∧ U.cell? ⟨w.heap.size + 1, 2, none⟩ = some (.string x2.t.name) ∧ U.cell? ⟨w.heap.size + 1, 3, none⟩ = some (.slice a3A2 x2.t.kids.length c3A2) ∧ U.cell? ⟨w.heap.size + 1, 4, none⟩ = some (.slice a4A2 x2.kids.length c4A2)) _ := ⟨(by have h := Y0 0; simp only [zc3, zc1, zc2] at h; exact h), (by have h := Y2 0; simp only [zc3, zc1, zc2] at h; exact h), (by have h := Y2 1; simp only [zc3, zc1, zc2] at h; exact h), (by have h := Y2 2; simp only [zc3, zc1, zc2] at h; exact h), (by have h := Y2 3; simp only [zc3, zc1, zc2] at h; exact h), (by have h := Y2 4; simp only [zc3, zc1, zc2] at h; exact h)⟩
    refine hK.out _ _ hF ?_
    clear hK
    try simp only [Act.put, zcY, zcZ, zc0]
    refine Ever.take (i := 7) (v := (.tuple #[.agg #[.string ((whyT x0 x1 x2).getD Eqn.zero).a.name, .slice a1S ((whyT x0 x1 x2).getD Eqn.zero).a.kids.length c1S, .string ((whyT x0 x1 x2).getD Eqn.zero).b.name, .slice a3S ((whyT x0 x1 x2).getD Eqn.zero).b.kids.length c3S], .bool ((whyT x0 x1 x2).isSome)])) rfl (by kernel_rfl) (by kernel_rfl) (by kernel_rfl) (fun _ _ _ h => h) (Or.inl ⟨by rfl, fun U hU => ?_⟩) hF ?_
    ·obtain ⟨l0_0F, l2_0F, l2_1F, l2_2F, l2_3F, l2_4F⟩ := hU
     go_simp
    try simp only [Act.put, zcY, zcZ, zc0]
    refine Ever.take (i := 8) (v := (.agg #[.string ((whyT x0 x1 x2).getD Eqn.zero).a.name, .slice a1S ((whyT x0 x1 x2).getD Eqn.zero).a.kids.length c1S, .string ((whyT x0 x1 x2).getD Eqn.zero).b.name, .slice a3S ((whyT x0 x1 x2).getD Eqn.zero).b.kids.length c3S])) rfl (by kernel_rfl) (by kernel_rfl) (by kernel_rfl) (fun _ _ _ h => h) (Or.inl ⟨by rfl, fun U hU => ?_⟩) hF ?_
    ·obtain ⟨l0_0F, l2_0F, l2_1F, l2_2F, l2_3F, l2_4F⟩ := hU
     go_simp
    try simp only [Act.put, zcY, zcZ, zc0]
    refine Ever.take (i := 9) (v := (.bool ((whyT x0 x1 x2).isSome))) rfl (by kernel_rfl) (by kernel_rfl) (by kernel_rfl) (fun _ _ _ h => h) (Or.inl ⟨by rfl, fun U hU => ?_⟩) hF ?_
    ·obtain ⟨l0_0F, l2_0F, l2_1F, l2_2F, l2_3F, l2_4F⟩ := hU
     go_simp
    try simp only [Act.put, zcY, zcZ, zc0]
    have m0 := hE 0; have n0 := hEf 0
    have m1 := hE 1; have n1 := hEf 1
    have m2 := hE 2; have n2 := hEf 2
    have m3 := hE 3; have n3 := hEf 3
    simp only [zc3, zc1, zc2] at m0 m1 m2 m3
    refine Ever.one (i := 11) (by kernel_rfl) rfl (fun J9 hK => ?_)
    go_simp
    have gE := zq (b := EB) [(0, .string ((whyT x0 x1 x2).getD Eqn.zero).a.name), (1, .slice a1S ((whyT x0 x1 x2).getD Eqn.zero).a.kids.length c1S), (2, .string ((whyT x0 x1 x2).getD Eqn.zero).b.name), (3, .slice a3S ((whyT x0 x1 x2).getD Eqn.zero).b.kids.length c3S)] (l := [.string ⟨#[]⟩, .slice none 0 0, .string ⟨#[]⟩, .slice none 0 0]) hE (by simp)
    have gh : ∀ c, c ≠ EB → (zF EB [(0, .string ((whyT x0 x1 x2).getD Eqn.zero).a.name), (1, .slice a1S ((whyT x0 x1 x2).getD Eqn.zero).a.kids.length c1S), (2, .string ((whyT x0 x1 x2).getD Eqn.zero).b.name), (3, .slice a3S ((whyT x0 x1 x2).getD Eqn.zero).b.kids.length c3S)] yH15).heap[c]? = yH15.heap[c]? := fun c hc => zK hc _ _
    have gW := zn (b := EB) hEW [(0, .string ((whyT x0 x1 x2).getD Eqn.zero).a.name), (1, .slice a1S ((whyT x0 x1 x2).getD Eqn.zero).a.kids.length c1S), (2, .string ((whyT x0 x1 x2).getD Eqn.zero).b.name), (3, .slice a3S ((whyT x0 x1 x2).getD Eqn.zero).b.kids.length c3S)] hW
    have gl : EB < (zF EB [(0, .string ((whyT x0 x1 x2).getD Eqn.zero).a.name), (1, .slice a1S ((whyT x0 x1 x2).getD Eqn.zero).a.kids.length c1S), (2, .string ((whyT x0 x1 x2).getD Eqn.zero).b.name), (3, .slice a3S ((whyT x0 x1 x2).getD Eqn.zero).b.kids.length c3S)] yH15).heap.size := zc4 hEl (zn (b := EB) (B := 0) (Nat.zero_le _) [(0, .string ((whyT x0 x1 x2).getD Eqn.zero).a.name), (1, .slice a1S ((whyT x0 x1 x2).getD Eqn.zero).a.kids.length c1S), (2, .string ((whyT x0 x1 x2).getD Eqn.zero).b.name), (3, .slice a3S ((whyT x0 x1 x2).getD Eqn.zero).b.kids.length c3S)] (Below.refl 0 yH15)).size
    simp only [zF, zQ, zcZ, zc0] at gE gh gW gl
    have gs : SameOn f_S _ _ := fun b hb => gh b (hne_S b hb)
    replace r_S := r_S.same _ gs
    replace fr_S := fr_S.same gs
    clear gs
    replace Y0 := zl Y0 (gh _ hne0)
    replace Y2 := zl Y2 (gh _ hne2)
    clear hW hY hE hEf m0 n0 m1 n1 m2 n2 m3 n3
    replace hF : (fun U : World => U.cell? ⟨w.heap.size, 0, none⟩ = some (.slice a0A0 x0.syms.length c0A0) ∧ U.cell? ⟨w.heap.size + 1, 0, none⟩ = some (.int .i64 x2.rule) ∧ U.cell? ⟨w.heap.size + 1, 1, none⟩ = some (.int .i64 x2.n) ∧ U.cell? ⟨w.heap.size + 1, 2, none⟩ = some (.string x2.t.name) ∧ U.cell? ⟨w.heap.size + 1, 3, none⟩ = some (.slice a3A2 x2.t.kids.length c3A2) ∧ U.cell? ⟨w.heap.size + 1, 4, none⟩ = some (.slice a4A2 x2.kids.length c4A2)) _ := ⟨(by have h := Y0 0; simp only [zc3, zc1, zc2] at h; exact h), (by have h := Y2 0; simp only [zc3, zc1, zc2] at h; exact h), (by have h := Y2 1; simp only [zc3, zc1, zc2] at h; exact h), (by have h := Y2 2; simp only [zc3, zc1, zc2] at h; exact h), (by have h := Y2 3; simp only [zc3, zc1, zc2] at h; exact h), (by have h := Y2 4; simp only [zc3, zc1, zc2] at h; exact h)⟩
    refine hK.out _ _ hF ?_
    clear hK
    try simp only [Act.put, zcY, zcZ, zc0]
    refine Ever.one (i := 12) (by kernel_rfl) rfl (fun J9 hK => ?_)
    go_simp
    refine hK.out _ _ hF ?_
    clear hK
    try simp only [Act.put, zcY, zcZ, zc0]
    refine Ever.done (by kernel_rfl) ?_ _
    go_wp2_with fail
    go_meet
    case rel => exact ⟨EB, _, _, _, _, _, rfl, rfl, gE, gl, r_S, fr_S, gW⟩
  ·go_simp
   have hE := zp yH0 #[.string ⟨#[]⟩, .slice none 0 0, .string ⟨#[]⟩, .slice none 0 0] 39
   have hEf := zO yH0 #[.string ⟨#[]⟩, .slice none 0 0, .string ⟨#[]⟩, .slice none 0 0] 39
   have hEl : yH0.heap.size < (yH0.alloc (.cells #[.string ⟨#[]⟩, .slice none 0 0, .string ⟨#[]⟩, .slice none 0 0] 39)).heap.size := by simp
   have hb := zb yH0 (.cells #[.string ⟨#[]⟩, .slice none 0 0, .string ⟨#[]⟩, .slice none 0 0] 39)
   obtain ⟨EB, hEB⟩ : ∃ B, B = yH0.heap.size := ⟨_, rfl⟩
   rw [← hEB] at hE hEf hEl ⊢
   have hEW : wh3.heap.size ≤ EB := by have := hW.size; omega
   have hne0 : w.heap.size ≠ EB := by have := hy0; omega
   have hne2 : w.heap.size + 1 ≠ EB := by have := hy2; omega
   clear hEB
   replace Y0 := za Y0 hy0 hb
   replace hy0 := zc4 hy0 hb.size
   replace Y2 := za Y2 hy2 hb
   replace hy2 := zc4 hy2 hb.size
   replace hW := hW.trans (hb.mono hW.size)
   replace hY := hY.trans (hb.mono hY.size)
   clear hb
   generalize yH0.alloc (.cells #[.string ⟨#[]⟩, .slice none 0 0, .string ⟨#[]⟩, .slice none 0 0] 39) = yH2 at *
   replace hF : (fun U : World => U.cell? ⟨w.heap.size, 0, none⟩ = some (.slice a0A0 x0.syms.length c0A0) ∧ U.cell? ⟨w.heap.size + 1, 0, none⟩ = some (.int .i64 x2.rule) ∧ U.cell? ⟨w.heap.size + 1, 1, none⟩ = some (.int .i64 x2.n) ∧ U.cell? ⟨w.heap.size + 1, 2, none⟩ = some (.string x2.t.name) ∧ U.cell? ⟨w.heap.size + 1, 3, none⟩ = some (.slice a3A2 x2.t.kids.length c3A2) ∧ U.cell? ⟨w.heap.size + 1, 4, none⟩ = some (.slice a4A2 x2.kids.length c4A2)) _ := ⟨(by have h := Y0 0; simp only [zc3, zc1, zc2] at h; exact h), (by have h := Y2 0; simp only [zc3, zc1, zc2] at h; exact h), (by have h := Y2 1; simp only [zc3, zc1, zc2] at h; exact h), (by have h := Y2 2; simp only [zc3, zc1, zc2] at h; exact h), (by have h := Y2 3; simp only [zc3, zc1, zc2] at h; exact h), (by have h := Y2 4; simp only [zc3, zc1, zc2] at h; exact h)⟩
   refine hK.out _ _ hF ?_
   clear hK
   try simp only [Act.put, zcY, zcZ, zc0]
   refine Ever.one (i := 1) (by kernel_rfl) rfl (fun J9 hK => ?_)
   go_simp
   go_wp2_with (go_at_call 8; refine (za4 x0 _ _ _ hbig0 (by exact hv0.below hY)).mono ?_; rintro e yH16 ⟨s0, sf0, rfl, sr0, sg0, hb⟩)
   replace Y0 := za Y0 hy0 hb
   replace hy0 := zc4 hy0 hb.size
   replace Y2 := za Y2 hy2 hb
   replace hy2 := zc4 hy2 hb.size
   replace hE := za hE hEl hb
   replace hEf := fun j => (zj (hb.block _ hEl)).trans (hEf j)
   replace hEl := zc4 hEl hb.size
   replace hW := hW.trans (hb.mono hW.size)
   replace hY := hY.trans (hb.mono hY.size)
   clear hb
   replace hF : (fun U : World => U.cell? ⟨w.heap.size, 0, none⟩ = some (.slice a0A0 x0.syms.length c0A0) ∧ U.cell? ⟨w.heap.size + 1, 0, none⟩ = some (.int .i64 x2.rule) ∧ U.cell? ⟨w.heap.size + 1, 1, none⟩ = some (.int .i64 x2.n) ∧ U.cell? ⟨w.heap.size + 1, 2, none⟩ = some (.string x2.t.name) ∧ U.cell? ⟨w.heap.size + 1, 3, none⟩ = some (.slice a3A2 x2.t.kids.length c3A2) ∧ U.cell? ⟨w.heap.size + 1, 4, none⟩ = some (.slice a4A2 x2.kids.length c4A2)) _ := ⟨(by have h := Y0 0; simp only [zc3, zc1, zc2] at h; exact h), (by have h := Y2 0; simp only [zc3, zc1, zc2] at h; exact h), (by have h := Y2 1; simp only [zc3, zc1, zc2] at h; exact h), (by have h := Y2 2; simp only [zc3, zc1, zc2] at h; exact h), (by have h := Y2 3; simp only [zc3, zc1, zc2] at h; exact h), (by have h := Y2 4; simp only [zc3, zc1, zc2] at h; exact h)⟩
   refine hK.out _ _ hF ?_
   clear hK
   try simp only [Act.put, zcY, zcZ, zc0]
   refine Ever.one (i := 3) (by kernel_rfl) rfl (fun J9 hK => ?_)
   go_simp
   go_wp2_with (go_at_call 9; refine (zaA x1 _ _ _ hbig1 (by exact hv1.below hY)).mono ?_; rintro e yH17 ⟨s1, sf1, rfl, sr1, sg1, hb⟩)
   replace Y0 := za Y0 hy0 hb
   replace hy0 := zc4 hy0 hb.size
   replace Y2 := za Y2 hy2 hb
   replace hy2 := zc4 hy2 hb.size
   replace sr0 := sr0.below hb
   replace hE := za hE hEl hb
   replace hEf := fun j => (zj (hb.block _ hEl)).trans (hEf j)
   replace hEl := zc4 hEl hb.size
   replace hW := hW.trans (hb.mono hW.size)
   replace hY := hY.trans (hb.mono hY.size)
   clear hb
   replace hF : (fun U : World => U.cell? ⟨w.heap.size, 0, none⟩ = some (.slice a0A0 x0.syms.length c0A0) ∧ U.cell? ⟨w.heap.size + 1, 0, none⟩ = some (.int .i64 x2.rule) ∧ U.cell? ⟨w.heap.size + 1, 1, none⟩ = some (.int .i64 x2.n) ∧ U.cell? ⟨w.heap.size + 1, 2, none⟩ = some (.string x2.t.name) ∧ U.cell? ⟨w.heap.size + 1, 3, none⟩ = some (.slice a3A2 x2.t.kids.length c3A2) ∧ U.cell? ⟨w.heap.size + 1, 4, none⟩ = some (.slice a4A2 x2.kids.length c4A2)) _ := ⟨(by have h := Y0 0; simp only [zc3, zc1, zc2] at h; exact h), (by have h := Y2 0; simp only [zc3, zc1, zc2] at h; exact h), (by have h := Y2 1; simp only [zc3, zc1, zc2] at h; exact h), (by have h := Y2 2; simp only [zc3, zc1, zc2] at h; exact h), (by have h := Y2 3; simp only [zc3, zc1, zc2] at h; exact h), (by have h := Y2 4; simp only [zc3, zc1, zc2] at h; exact h)⟩
   refine hK.out _ _ hF ?_
   clear hK
   try simp only [Act.put, zcY, zcZ, zc0]
   refine Ever.one (i := 5) (by kernel_rfl) rfl (fun J9 hK => ?_)
   go_simp
   go_wp2_with (go_at_call 10; refine (zap x2 _ _ _ hbig2 (by exact hv2.below hY)).mono ?_; rintro e yH18 ⟨s2, sf2, rfl, sr2, sg2, hb⟩)
   replace Y0 := za Y0 hy0 hb
   replace hy0 := zc4 hy0 hb.size
   replace Y2 := za Y2 hy2 hb
   replace hy2 := zc4 hy2 hb.size
   replace sr0 := sr0.below hb
   replace sr1 := sr1.below hb
   replace hE := za hE hEl hb
   replace hEf := fun j => (zj (hb.block _ hEl)).trans (hEf j)
   replace hEl := zc4 hEl hb.size
   replace hW := hW.trans (hb.mono hW.size)
   replace hY := hY.trans (hb.mono hY.size)
   clear hb
   replace hF : (fun U : World => U.cell? ⟨w.heap.size, 0, none⟩ = some (.slice a0A0 x0.syms.length c0A0) ∧ U.cell? ⟨w.heap.size + 1, 0, none⟩ = some (.int .i64 x2.rule) ∧ U.cell? ⟨w.heap.size + 1, 1, none⟩ = some (.int .i64 x2.n) ∧ U.cell? ⟨w.heap.size + 1, 2, none⟩ = some (.string x2.t.name) ∧ U.cell? ⟨w.heap.size + 1, 3, none⟩ = some (.slice a3A2 x2.t.kids.length c3A2) ∧ U.cell? ⟨w.heap.size + 1, 4, none⟩ = some (.slice a4A2 x2.kids.length c4A2)) _ := ⟨(by have h := Y0 0; simp only [zc3, zc1, zc2] at h; exact h), (by have h := Y2 0; simp only [zc3, zc1, zc2] at h; exact h), (by have h := Y2 1; simp only [zc3, zc1, zc2] at h; exact h), (by have h := Y2 2; simp only [zc3, zc1, zc2] at h; exact h), (by have h := Y2 3; simp only [zc3, zc1, zc2] at h; exact h), (by have h := Y2 4; simp only [zc3, zc1, zc2] at h; exact h)⟩
   refine hK.out _ _ hF ?_
   clear hK
   try simp only [Act.put, zcY, zcZ, zc0]
   refine Ever.one (i := 6) (by kernel_rfl) rfl (fun J9 hK => ?_)
   go_simp
   go_wp2_with (go_at_call 11; refine (zU x0 x1 x2 _ _ _ _ _ _ _ (zL hbig1) (by omega) (Wy.thin_of _ x2 (Nat.le_refl _) hbig2) (by exact sr0) (by exact sr1) (by exact sr2)).mono ?_; rintro e yH19 ⟨vS, f_S, rfl, r_S, fr_S, hb⟩)
   have r_S' := r_S
   obtain ⟨a1S, c1S, f1S, a3S, c3S, f3S, rfl, _, _, _, _, _⟩ := Eqn.open r_S'
   have hne_S : ∀ b ∈ f_S, b ≠ EB := fun b hb' => by have := (fr_S.2 b hb').1; omega
   replace fr_S := fr_S.mono (lo' := wh3.heap.size) (by have := hW.size; omega)
   replace Y0 := za Y0 hy0 hb
   replace hy0 := zc4 hy0 hb.size
   replace Y2 := za Y2 hy2 hb
   replace hy2 := zc4 hy2 hb.size
   replace hE := za hE hEl hb
   replace hEf := fun j => (zj (hb.block _ hEl)).trans (hEf j)
   replace hEl := zc4 hEl hb.size
   replace hW := hW.trans (hb.mono hW.size)
   replace hY := hY.trans (hb.mono hY.size)
   clear hb
   replace hF : (fun U : World => U.cell? ⟨w.heap.size, 0, none⟩ = some (.slice a0A0 x0.syms.length c0A0) ∧ U.cell? ⟨w.heap.size + 1, 0, none⟩ = some (.int .i64 x2.rule) ∧ U.cell? ⟨w.heap.size + 1, 1, none⟩ = some (.int .i64 x2.n) ∧ U.cell? ⟨w.heap.size + 1, 2, none⟩ = some (.string x2.t.name) ∧ U.cell? ⟨w.heap.size + 1, 3, none⟩ = some (.slice a3A2 x2.t.kids.length c3A2) ∧ U.cell? ⟨w.heap.size + 1, 4, none⟩ = some (.slice a4A2 x2.kids.length c4A2)) _ := ⟨(by have h := Y0 0; simp only [zc3, zc1, zc2] at h; exact h), (by have h := Y2 0; simp only [zc3, zc1, zc2] at h; exact h), (by have h := Y2 1; simp only [zc3, zc1, zc2] at h; exact h), (by have h := Y2 2; simp only [zc3, zc1, zc2] at h; exact h), (by have h := Y2 3; simp only [zc3, zc1, zc2] at h; exact h), (by have h := Y2 4; simp only [zc3, zc1, zc2] at h; exact h)⟩
   refine hK.out _ _ hF ?_
   clear hK
   try simp only [Act.put, zcY, zcZ, zc0]
   refine Ever.take (i := 7) (v := (.tuple #[.agg #[.string ((whyT x0 x1 x2).getD Eqn.zero).a.name, .slice a1S ((whyT x0 x1 x2).getD Eqn.zero).a.kids.length c1S, .string ((whyT x0 x1 x2).getD Eqn.zero).b.name, .slice a3S ((whyT x0 x1 x2).getD Eqn.zero).b.kids.length c3S], .bool ((whyT x0 x1 x2).isSome)])) rfl (by kernel_rfl) (by kernel_rfl) (by kernel_rfl) (fun _ _ _ h => h) (Or.inl ⟨by rfl, fun U hU => ?_⟩) hF ?_
   ·obtain ⟨l0_0F, l2_0F, l2_1F, l2_2F, l2_3F, l2_4F⟩ := hU
    go_simp
   try simp only [Act.put, zcY, zcZ, zc0]
   refine Ever.take (i := 8) (v := (.agg #[.string ((whyT x0 x1 x2).getD Eqn.zero).a.name, .slice a1S ((whyT x0 x1 x2).getD Eqn.zero).a.kids.length c1S, .string ((whyT x0 x1 x2).getD Eqn.zero).b.name, .slice a3S ((whyT x0 x1 x2).getD Eqn.zero).b.kids.length c3S])) rfl (by kernel_rfl) (by kernel_rfl) (by kernel_rfl) (fun _ _ _ h => h) (Or.inl ⟨by rfl, fun U hU => ?_⟩) hF ?_
   ·obtain ⟨l0_0F, l2_0F, l2_1F, l2_2F, l2_3F, l2_4F⟩ := hU
    go_simp
   try simp only [Act.put, zcY, zcZ, zc0]
   refine Ever.take (i := 9) (v := (.bool ((whyT x0 x1 x2).isSome))) rfl (by kernel_rfl) (by kernel_rfl) (by kernel_rfl) (fun _ _ _ h => h) (Or.inl ⟨by rfl, fun U hU => ?_⟩) hF ?_
   ·obtain ⟨l0_0F, l2_0F, l2_1F, l2_2F, l2_3F, l2_4F⟩ := hU
    go_simp
   try simp only [Act.put, zcY, zcZ, zc0]
   have m0 := hE 0; have n0 := hEf 0
   have m1 := hE 1; have n1 := hEf 1
   have m2 := hE 2; have n2 := hEf 2
   have m3 := hE 3; have n3 := hEf 3
   simp only [zc3, zc1, zc2] at m0 m1 m2 m3
   refine Ever.one (i := 11) (by kernel_rfl) rfl (fun J9 hK => ?_)
   go_simp
   have gE := zq (b := EB) [(0, .string ((whyT x0 x1 x2).getD Eqn.zero).a.name), (1, .slice a1S ((whyT x0 x1 x2).getD Eqn.zero).a.kids.length c1S), (2, .string ((whyT x0 x1 x2).getD Eqn.zero).b.name), (3, .slice a3S ((whyT x0 x1 x2).getD Eqn.zero).b.kids.length c3S)] (l := [.string ⟨#[]⟩, .slice none 0 0, .string ⟨#[]⟩, .slice none 0 0]) hE (by simp)
   have gh : ∀ c, c ≠ EB → (zF EB [(0, .string ((whyT x0 x1 x2).getD Eqn.zero).a.name), (1, .slice a1S ((whyT x0 x1 x2).getD Eqn.zero).a.kids.length c1S), (2, .string ((whyT x0 x1 x2).getD Eqn.zero).b.name), (3, .slice a3S ((whyT x0 x1 x2).getD Eqn.zero).b.kids.length c3S)] yH19).heap[c]? = yH19.heap[c]? := fun c hc => zK hc _ _
   have gW := zn (b := EB) hEW [(0, .string ((whyT x0 x1 x2).getD Eqn.zero).a.name), (1, .slice a1S ((whyT x0 x1 x2).getD Eqn.zero).a.kids.length c1S), (2, .string ((whyT x0 x1 x2).getD Eqn.zero).b.name), (3, .slice a3S ((whyT x0 x1 x2).getD Eqn.zero).b.kids.length c3S)] hW
   have gl : EB < (zF EB [(0, .string ((whyT x0 x1 x2).getD Eqn.zero).a.name), (1, .slice a1S ((whyT x0 x1 x2).getD Eqn.zero).a.kids.length c1S), (2, .string ((whyT x0 x1 x2).getD Eqn.zero).b.name), (3, .slice a3S ((whyT x0 x1 x2).getD Eqn.zero).b.kids.length c3S)] yH19).heap.size := zc4 hEl (zn (b := EB) (B := 0) (Nat.zero_le _) [(0, .string ((whyT x0 x1 x2).getD Eqn.zero).a.name), (1, .slice a1S ((whyT x0 x1 x2).getD Eqn.zero).a.kids.length c1S), (2, .string ((whyT x0 x1 x2).getD Eqn.zero).b.name), (3, .slice a3S ((whyT x0 x1 x2).getD Eqn.zero).b.kids.length c3S)] (Below.refl 0 yH19)).size
   simp only [zF, zQ, zcZ, zc0] at gE gh gW gl
   have gs : SameOn f_S _ _ := fun b hb => gh b (hne_S b hb)
   replace r_S := r_S.same _ gs
   replace fr_S := fr_S.same gs
   clear gs
   replace Y0 := zl Y0 (gh _ hne0)
   replace Y2 := zl Y2 (gh _ hne2)
   clear hW hY hE hEf m0 n0 m1 n1 m2 n2 m3 n3
   replace hF : (fun U : World => U.cell? ⟨w.heap.size, 0, none⟩ = some (.slice a0A0 x0.syms.length c0A0) ∧ U.cell? ⟨w.heap.size + 1, 0, none⟩ = some (.int .i64 x2.rule) ∧ U.cell? ⟨w.heap.size + 1, 1, none⟩ = some (.int .i64 x2.n) ∧ U.cell? ⟨w.heap.size + 1, 2, none⟩ = some (.string x2.t.name) ∧ U.cell? ⟨w.heap.size + 1, 3, none⟩ = some (.slice a3A2 x2.t.kids.length c3A2) ∧ U.cell? ⟨w.heap.size + 1, 4, none⟩ = some (.slice a4A2 x2.kids.length c4A2)) _ := ⟨(by have h := Y0 0; simp only [zc3, zc1, zc2] at h; exact h), (by have h := Y2 0; simp only [zc3, zc1, zc2] at h; exact h), (by have h := Y2 1; simp only [zc3, zc1, zc2] at h; exact h), (by have h := Y2 2; simp only [zc3, zc1, zc2] at h; exact h), (by have h := Y2 3; simp only [zc3, zc1, zc2] at h; exact h), (by have h := Y2 4; simp only [zc3, zc1, zc2] at h; exact h)⟩
   refine hK.out _ _ hF ?_
   clear hK
   try simp only [Act.put, zcY, zcZ, zc0]
   refine Ever.one (i := 12) (by kernel_rfl) rfl (fun J9 hK => ?_)
   go_simp
   refine hK.out _ _ hF ?_
   clear hK
   try simp only [Act.put, zcY, zcZ, zc0]
   refine Ever.done (by kernel_rfl) ?_ _
   go_wp2_with fail
   go_meet
   case rel => exact ⟨EB, _, _, _, _, _, rfl, rfl, gE, gl, r_S, fr_S, gW⟩
 case rest =>
 obtain ⟨EBH, a1H, c1H, a3H, c3H, f_H, rfl, rfl, ZH, hlZH, r_H, fr_H, hb⟩ := hcut
 obtain ⟨wxH, rfl⟩ : ∃ x, x = wc := ⟨_, rfl⟩
 have hi_H : ∀ b ∈ f_H, b < wxH.heap.size := r_H.lt _
 
 replace r_G := r_G.below hb
 replace X0 := za X0 hlX0 hb
 replace X2 := za X2 hlX2 hb
 replace ZS := za ZS hlZS hb
 replace ZT0 := za ZT0 hlZT0 hb
 replace ZT2 := za ZT2 hlZT2 hb
 replace ZG := za ZG hlZG hb
 replace r_S := r_S.below hb
 replace fr_S := fr_S.below hb
 replace hB := hB.trans (hb.mono hz0)
 have hzn := hb.size
 replace hlX0 := zc4 hlX0 hzn
 replace hlX2 := zc4 hlX2 hzn
 replace hlZS := zc4 hlZS hzn
 replace hlZT0 := zc4 hlZT0 hzn
 replace hlZT2 := zc4 hlZT2 hzn
 replace hlZG := zc4 hlZG hzn
 replace hh_S := Nat.le_trans hh_S hzn
 replace hz0 := Nat.le_trans hz0 hzn
 clear hb hzn
 go_wp2_with fail
 refine (zcF ((whyT x0 x1 x2).getD Eqn.zero) _ _ _ _ _ (by exact r_H) (by exact r_S)).mono ?_
 rintro e we4 ⟨rfl, hb⟩
 replace r_G := r_G.below hb
 replace X0 := za X0 hlX0 hb
 replace X2 := za X2 hlX2 hb
 replace ZS := za ZS hlZS hb
 replace ZT0 := za ZT0 hlZT0 hb
 replace ZT2 := za ZT2 hlZT2 hb
 replace ZG := za ZG hlZG hb
 replace ZH := za ZH hlZH hb
 replace r_S := r_S.below hb
 replace fr_S := fr_S.below hb
 replace hB := hB.trans (hb.mono hz0)
 have hzn := hb.size
 replace hlX0 := zc4 hlX0 hzn
 replace hlX2 := zc4 hlX2 hzn
 replace hlZS := zc4 hlZS hzn
 replace hlZT0 := zc4 hlZT0 hzn
 replace hlZT2 := zc4 hlZT2 hzn
 replace hlZG := zc4 hlZG hzn
 replace hlZH := zc4 hlZH hzn
 replace hh_S := Nat.le_trans hh_S hzn
 replace hz0 := Nat.le_trans hz0 hzn
 clear hb hzn
 go_wp2_with fail
 refine (zcE ((whyT x0 x1 x2).getD Eqn.zero) _ _ _ _ _ 1 _ (by omega) (by omega) (by exact r_G)).mono ?_
 rintro e wh5 ⟨rfl, hb⟩
 replace r_G := r_G.below hb
 replace X0 := za X0 hlX0 hb
 replace X2 := za X2 hlX2 hb
 replace ZS := za ZS hlZS hb
 replace ZT0 := za ZT0 hlZT0 hb
 replace ZT2 := za ZT2 hlZT2 hb
 replace ZG := za ZG hlZG hb
 replace ZH := za ZH hlZH hb
 replace r_S := r_S.below hb
 replace fr_S := fr_S.below hb
 replace hB := hB.trans (hb.mono hz0)
 have hzn := hb.size
 replace hlX0 := zc4 hlX0 hzn
 replace hlX2 := zc4 hlX2 hzn
 replace hlZS := zc4 hlZS hzn
 replace hlZT0 := zc4 hlZT0 hzn
 replace hlZT2 := zc4 hlZT2 hzn
 replace hlZG := zc4 hlZG hzn
 replace hlZH := zc4 hlZH hzn
 replace hh_S := Nat.le_trans hh_S hzn
 replace hz0 := Nat.le_trans hz0 hzn
 clear hb hzn
 have hneg : decide (((1 + cntT ((whyT x0 x1 x2).getD Eqn.zero).cd : Int)) < 0) = false := by simp; omega
 have hne : ((1 + cntT ((whyT x0 x1 x2).getD Eqn.zero).cd : Int) != (1 + cntT ((whyT x0 x1 x2).getD Eqn.zero).cd : Int)) = false := by simp
 go_wp2_with fail
 clear hneg hne
 go_ret
 exact ⟨rfl, hB⟩
end Go.Proofs.Ytcfpnjcamcpieaa
end
