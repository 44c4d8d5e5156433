/- Parts of the proof: LawWhySameL. -/
import Derived.Test.YtlefdhhnlbpbkaaGreatPv37
import Derived.Test.YtlefdhhnlbpbkaaGreatPv39
import Derived.Test.YtlefdhhnlbpbkaaGreatPv40
import Derived.Test.YtlefdhhnlbpbkaaGreatPv47
import Derived.Test.YtlefdhhnlbpbkaaGreatPv9
import Derived.Test.YtlefdhhnlbpbkaaGreatPv28
import Derived.Test.YtlefdhhnlbpbkaaGreatPv16
section
namespace Go.Proofs.YtlefdhhnlbpbkaaGreat
open Go Go.RowKit
set_option linter.unusedVariables false
set_option linter.unusedSimpArgs false
set_option maxRecDepth 100000
set_option maxHeartbeats 16000000
theorem zc9 (x y : Tm) (vs us : List Value) (f f' : List Nat) (w : World) (hv : RdVs w x.cd vs f) (hx : RdVs w x.cd us f') :
  Calls Tryz.prog 8 #[.agg vs.toArray, .agg us.toArray] w fun e w' => e = .returned (.bool true) ∧ Below w.heap.size w w' := by
 have h := zdS x x vs us f f' w hv hx
 rw [show eqV x.cd x.cd = true by rw [zab]] at h
 exact h
theorem sides_13w {es : List Eqn} (hl : es.length ≤ 13) (h : ∀ q ∈ es, q.a.size ≤ 45 ∧ q.b.size ≤ 45) : Tm.sizes (zj es) ≤ 2000 := by
 have h1 := zdQ (a := ⟨⟨#[]⟩, []⟩) (b := ⟨⟨#[]⟩, []⟩) hl h (by rw [Tm.size_eq]; simp [Tm.kids, Tm.sizes]) (by rw [Tm.size_eq]; simp [Tm.kids, Tm.sizes])
 rw [Tm.sizes_append] at h1
 omega
theorem eqV_turn (a b : List CD) : eqV a b = eqV b a := by rw [Bool.eq_iff_iff, zab, zab]; exact eq_comm
mutual
theorem Wy.tells_up {es : List Eqn} : ∀ (x : Wy) (d : Nat) (q : Eqn), Wy.tells es d x = some q → Wy.tells es (d + 1) x = some q
 | .mk r n t ks, d, q, h => by
  rw [Wy.tells_eq] at h ⊢
  rw [if_neg (by omega)]
  by_cases hd : d = 0
  ·rw [if_pos hd] at h; cases h
  ·rw [if_neg hd] at h
   obtain ⟨l, hl, hq⟩ := Option.bind_eq_some_iff.1 h
   have h1 := Wy.tellsL_up ks (d - 1) l hl
   rw [show d + 1 - 1 = d - 1 + 1 by omega, h1]
   exact hq
theorem Wy.tellsL_up {es : List Eqn} : ∀ (ks : List Wy) (d : Nat) (l : List Eqn), Wy.tellsL es d ks = some l → Wy.tellsL es (d + 1) ks = some l
 | [], d, l, h => by simpa [Wy.tellsL] using h
 | k :: ks, d, l, h => by
  simp only [Wy.tellsL] at h ⊢
  obtain ⟨e, he, h2⟩ := Option.bind_eq_some_iff.1 h
  obtain ⟨m, hm, h3⟩ := Option.bind_eq_some_iff.1 h2
  rw [Wy.tells_up k d e he, Wy.tellsL_up ks d m hm]
  exact h3
end
theorem sym_inv {es : List Eqn} {d : Nat} {x : Wy} {q : Eqn} (h : Wy.tells es (d + 1) (.mk 3 0 ⟨⟨#[]⟩, []⟩ [x]) = some q) : Wy.tells es d x = some ⟨q.b, q.a⟩ := by
 rw [Wy.tells_eq, if_neg (by omega), Nat.add_sub_cancel] at h
 simp only [Wy.tellsL] at h
 cases hx : Wy.tells es d x with
 | none => rw [hx] at h; cases h
 | some e =>
  rw [hx] at h
  simp only [Option.bind_some, zM] at h
  simp only [show ¬ ((3 : Int) = 1) by decide, show ¬ ((3 : Int) = 2) by decide, if_false, if_true] at h
  split at h
  ·obtain rfl := Option.some.inj h; rfl
  ·cases h
theorem zcm {s : Sg} {es : List Eqn} {x : Wy} {q : Eqn} (h : whyT s es x = some q) : Wy.tells es 400 x = some q := by
 unfold whyT at h
 split at h
 ·split at h
  ·cases h
  ·rename_i q' hq
   split at h
   ·obtain rfl := Option.some.inj h
    exact hq
   ·cases h
 ·cases h
theorem zei {s : Sg} {es : List Eqn} {x : Wy} {q q2 : Eqn} (h : whyT s es x = some q) (h2 : whyT s es (.mk 3 0 ⟨⟨#[]⟩, []⟩ [.mk 3 0 ⟨⟨#[]⟩, []⟩ [x]]) = some q2) : q2 = q := by
 have h1 := zcm h
 have h3 := sym_inv (sym_inv (zcm h2))
 have h4 := Wy.tells_up x 399 _ (Wy.tells_up x 398 _ h3)
 rw [h1] at h4
 cases q; cases q2
 exact (Option.some.inj h4).symm
theorem sym_rd {w : World} {x : Wy} {vs : List Value} {f : List Nat} (h : RdVs w x.cd vs f) : ∃ f', RdVs (w.alloc (.cells vs.toArray 32)) (Wy.mk 3 0 ⟨⟨#[]⟩, []⟩ [x]).cd [.int .i64 3, .int .i64 0, .string ⟨#[]⟩, .slice none 0 0, .slice (some ⟨w.heap.size, 0, none⟩) 1 1] f' := by
 have h0 := Own.single (w := w) (base := w.heap.size) (e := 32) (k := 5) (vs := vs) (Nat.le_refl _) (h.below (zb w (.cells vs.toArray 32))) (Wy.cd_len _) h.lt
 obtain ⟨f', h1⟩ := h0.rd'
 exact ⟨_, Wy.close (x := .mk 3 0 ⟨⟨#[]⟩, []⟩ [x]) (show I64 3 from ⟨by decide, by decide⟩) (show I64 0 from ⟨by decide, by decide⟩) (Nat.zero_le _) (zcx none 0 (Nat.zero_le _)) h1⟩
theorem once_rd {w : World} {r m mo : Int} {t : Tm} {ks : List Wy} {a3 a4 : Option Addr} {c3 c4 : Nat} {f : List Nat} (h : RdVs w (Wy.mk r m t ks).cd [.int .i64 r, .int .i64 m, .string t.name, .slice a3 t.kids.length c3, .slice a4 ks.length c4] f) (hm : I64 mo) : RdVs w (Wy.mk r mo t ks).cd [.int .i64 r, .int .i64 mo, .string t.name, .slice a3 t.kids.length c3, .slice a4 ks.length c4] f := by
 obtain ⟨_, _, f3, _, _, f4, hve, hfe, ir, iN, isz, g3, g4⟩ := Wy.open h
 simp only [List.cons.injEq, Value.slice.injEq, and_true, true_and, Wy.rule, Wy.n, Wy.t, Wy.kids] at hve
 obtain ⟨⟨rfl, rfl⟩, rfl, rfl⟩ := hve
 subst hfe
 exact Wy.close (x := .mk r mo t ks) ir hm isz g3 g4
theorem once_num {m : Int} (h : I64 m) : I64 (wrap64 (m + 1)) ∧ wrap64 (m + 1) ≠ m := by
 obtain ⟨h1, h2⟩ := h
 unfold wrap64
 exact ⟨⟨by omega, by omega⟩, by omega⟩
theorem once_ne {r m mo : Int} {t : Tm} {ks : List Wy} (h : mo ≠ m) : eqV (Wy.mk r m t ks).cd (Wy.mk r mo t ks).cd = false := by
 cases h9 : eqV (Wy.mk r m t ks).cd (Wy.mk r mo t ks).cd with
 | false => rfl
 | true =>
  rw [zab, Wy.cd_eq, Wy.cd_eq] at h9
  simp only [List.singleton_append, List.cons.injEq, CD.int.injEq, Wy.n] at h9
  exact absurd h9.2.1.symm h
theorem zcG (v : Value) (w : World) (hv : Byts w v) :
  Calls Tryz.prog 4 #[v] w fun e w' => e = .returned (.bool true) ∧ Below w.heap.size w w' := by
 have hv0 := hv
 obtain ⟨a9, n, cap, rfl, hn1, hn2, _⟩ := hv
 by_cases hlen : n ≤ 1048576
 rotate_left
 ·have hlb0 : decide ((1048576 : Int) < (n : Int)) = true := decide_eq_true (by omega)
  go_enter Tryz.func4, Tryz.ntmps4
  go_wp2_with fail
  go_ret
  exact ⟨rfl, Below.refl _ _⟩
 have hlb0 : decide ((1048576 : Int) < (n : Int)) = false := decide_eq_false (by omega)
 go_enter Tryz.func4, Tryz.ntmps4
 go_wp2_with fail
 refine (zbM _ _ hv0).mono ?_
 rintro e w1 ⟨⟨r, m, t, ks, r2, m2, t2, k2, a3, c3, a4, c4, x3, y3, x4, y4, af, bf, hfit, hfit2, rfl, hra, hrb⟩, hB⟩
 have HTA := Lib.hid (hfit.thin (by decide))
 have HUA := Lib.hid hfit.uses
 clear hfit hfit2
 obtain ⟨aB, haB⟩ : ∃ F, F = w1.heap.size := ⟨_, rfl⟩
 obtain ⟨bB, hbB⟩ : ∃ G, G = aB + 1 := ⟨_, rfl⟩
 have hA := (Box.new w1 [.int .i64 r, .int .i64 m, .string t.name, .slice a3 t.kids.length c3, .slice a4 ks.length c4] 32).alloc (.cells #[.int .i64 r2, .int .i64 m2, .string t2.name, .slice x3 t2.kids.length y3, .slice x4 k2.length y4] 32)
 have hC := Box.new (w1.alloc (.cells #[.int .i64 r, .int .i64 m, .string t.name, .slice a3 t.kids.length c3, .slice a4 ks.length c4] 32)) [.int .i64 r2, .int .i64 m2, .string t2.name, .slice x3 t2.kids.length y3, .slice x4 k2.length y4] 32
 rw [World.size_alloc] at hC
 rw [← haB, ← hbB] at hC
 rw [← haB] at hA
 go_upto_region 4 with fail
 try rw [← haB]
 try rw [← hbB]
 have hba : Below w1.heap.size w1 ((w1.alloc (.cells #[.int .i64 r, .int .i64 m, .string t.name, .slice a3 t.kids.length c3, .slice a4 ks.length c4] 32)).alloc (.cells #[.int .i64 r2, .int .i64 m2, .string t2.name, .slice x3 t2.kids.length y3, .slice x4 k2.length y4] 32)) := ((Below.refl _ _).alloc (Nat.le_refl _) _).alloc (by simp) _
 replace hra := hra.below hba; replace hrb := hrb.below hba
 replace hB := hB.trans (hba.mono hB.size)
 clear hba haB hbB
 generalize (w1.alloc (.cells #[.int .i64 r, .int .i64 m, .string t.name, .slice a3 t.kids.length c3, .slice a4 ks.length c4] 32)).alloc (.cells #[.int .i64 r2, .int .i64 m2, .string t2.name, .slice x3 t2.kids.length y3, .slice x4 k2.length y4] 32) = w2 at *
 go_wp2_with fail
 refine (zay _ _ (hv0.below hB)).mono ?_
 rintro e w3 ⟨⟨s, es, ru, mu, tu, ku, sa, sc, ev, d3, g3, d4, g4, sf, ef, wf, hfew, hel, hes, hfit, rfl, hrs, hre, hrw, _, _⟩, hb⟩
 replace hra := hra.below hb
 replace hrb := hrb.below hb
 replace hA := hA.below hb
 replace hC := hC.below hb
 replace hB := hB.trans (hb.mono hB.size)
 clear hb
 obtain ⟨evA, evC, rfl, hec1, hec2⟩ := zd hre
 have hsz := sides_13w hel hes
 have HTH := Lib.hid (hfit.thin (by decide))
 clear hfew hes hfit
 obtain ⟨sB, hsB⟩ : ∃ F, F = w3.heap.size := ⟨_, rfl⟩
 obtain ⟨wB, hwB⟩ : ∃ G, G = sB + 1 := ⟨_, rfl⟩
 have hS := (Box.new w3 [.slice sa s.syms.length sc] 25).alloc (.cells #[.int .i64 ru, .int .i64 mu, .string tu.name, .slice d3 tu.kids.length g3, .slice d4 ku.length g4] 32)
 have hW := Box.new (w3.alloc (.cells #[.slice sa s.syms.length sc] 25)) [.int .i64 ru, .int .i64 mu, .string tu.name, .slice d3 tu.kids.length g3, .slice d4 ku.length g4] 32
 rw [World.size_alloc] at hW
 rw [← hsB, ← hwB] at hW
 rw [← hsB] at hS
 go_upto_region 5 with fail
 try rw [← hsB]
 try rw [← hwB]
 have hba : Below w3.heap.size w3 ((w3.alloc (.cells #[.slice sa s.syms.length sc] 25)).alloc (.cells #[.int .i64 ru, .int .i64 mu, .string tu.name, .slice d3 tu.kids.length g3, .slice d4 ku.length g4] 32)) := ((Below.refl _ _).alloc (Nat.le_refl _) _).alloc (by simp) _
 replace hra := hra.below hba
 replace hrb := hrb.below hba
 replace hrs := hrs.below hba
 replace hre := hre.below hba
 replace hrw := hrw.below hba
 replace hA := hA.below hba
 replace hC := hC.below hba
 replace hB := hB.trans (hba.mono hB.size)
 clear hba
 clear hsB hwB
 generalize (w3.alloc (.cells #[.slice sa s.syms.length sc] 25)).alloc (.cells #[.int .i64 ru, .int .i64 mu, .string tu.name, .slice d3 tu.kids.length g3, .slice d4 ku.length g4] 32) = w4 at *
 obtain ⟨eb, HE1⟩ : ∃ b, Hid (eqV (Wy.mk r m t ks).cd (Wy.mk r2 m2 t2 k2).cd = b) := ⟨_, Lib.hid rfl⟩
 have HE2 : Hid (eqV (Wy.mk r2 m2 t2 k2).cd (Wy.mk r m t ks).cd = eb) := Lib.hid (by rw [eqV_turn]; exact HE1.out)
 have HE3 : Hid (eqV (Wy.mk r m t ks).cd (Wy.mk r m t ks).cd = true) := Lib.hid (by rw [zab])
 obtain ⟨ok0, HOK⟩ : ∃ b, Hid (eqsB s es = b) := ⟨_, Lib.hid rfl⟩
 have n1 : (eb != eb) = false := by cases eb <;> rfl
 have n2 : (ok0 != ok0) = false := by cases ok0 <;> rfl
 have hbd := zi w4
 replace hra := hra.below hbd
 replace hrb := hrb.below hbd
 replace hrs := hrs.below hbd
 replace hre := hre.below hbd
 replace hrw := hrw.below hbd
 replace hA := hA.below hbd
 replace hC := hC.below hbd
 replace hS := hS.below hbd
 replace hW := hW.below hbd
 replace hB := hB.trans (hbd.mono hB.size)
 clear hbd
 refine Ever.start (F := (fun U : World => U.cell? ⟨aB, 0, none⟩ = some (.int .i64 r) ∧ U.cell? ⟨aB, 1, none⟩ = some (.int .i64 m) ∧ U.cell? ⟨aB, 2, none⟩ = some (.string t.name) ∧ U.cell? ⟨aB, 3, none⟩ = some (.slice a3 t.kids.length c3) ∧ U.cell? ⟨aB, 4, none⟩ = some (.slice a4 ks.length c4) ∧ U.cell? ⟨bB, 0, none⟩ = some (.int .i64 r2) ∧ U.cell? ⟨bB, 1, none⟩ = some (.int .i64 m2) ∧ U.cell? ⟨bB, 2, none⟩ = some (.string t2.name) ∧ U.cell? ⟨bB, 3, none⟩ = some (.slice x3 t2.kids.length y3) ∧ U.cell? ⟨bB, 4, none⟩ = some (.slice x4 k2.length y4) ∧ U.cell? ⟨sB, 0, none⟩ = some (.slice sa s.syms.length sc))) (by kernel_rfl) ?_
 generalize w4.drew = V0 at *
 have hF9 : (fun U : World => U.cell? ⟨aB, 0, none⟩ = some (.int .i64 r) ∧ U.cell? ⟨aB, 1, none⟩ = some (.int .i64 m) ∧ U.cell? ⟨aB, 2, none⟩ = some (.string t.name) ∧ U.cell? ⟨aB, 3, none⟩ = some (.slice a3 t.kids.length c3) ∧ U.cell? ⟨aB, 4, none⟩ = some (.slice a4 ks.length c4) ∧ U.cell? ⟨bB, 0, none⟩ = some (.int .i64 r2) ∧ U.cell? ⟨bB, 1, none⟩ = some (.int .i64 m2) ∧ U.cell? ⟨bB, 2, none⟩ = some (.string t2.name) ∧ U.cell? ⟨bB, 3, none⟩ = some (.slice x3 t2.kids.length y3) ∧ U.cell? ⟨bB, 4, none⟩ = some (.slice x4 k2.length y4) ∧ U.cell? ⟨sB, 0, none⟩ = some (.slice sa s.syms.length sc)) _ := ⟨hA.2.1 0 _ rfl, hA.2.1 1 _ rfl, hA.2.1 2 _ rfl, hA.2.1 3 _ rfl, hA.2.1 4 _ rfl, hC.2.1 0 _ rfl, hC.2.1 1 _ rfl, hC.2.1 2 _ rfl, hC.2.1 3 _ rfl, hC.2.1 4 _ rfl, hS.2.1 0 _ rfl⟩
 refine Ever.take (i := 0) (v := (.agg #[.int .i64 r, .int .i64 m, .string t.name, .slice a3 t.kids.length c3, .slice a4 ks.length c4])) rfl (by kernel_rfl) (by kernel_rfl) (by kernel_rfl) (fun _ _ _ h => h) (Or.inl ⟨by rfl, fun U hU => ?_⟩) hF9 ?_
 ·obtain ⟨u0F, u1F, u2F, u3F, u4F, u5F, u6F, u7F, u8F, u9F, u10F⟩ := hU
  go_simp
 try simp only [Act.put, zej, zek, zel]
 refine Ever.take (i := 1) (v := (.agg #[.int .i64 r2, .int .i64 m2, .string t2.name, .slice x3 t2.kids.length y3, .slice x4 k2.length y4])) rfl (by kernel_rfl) (by kernel_rfl) (by kernel_rfl) (fun _ _ _ h => h) (Or.inl ⟨by rfl, fun U hU => ?_⟩) hF9 ?_
 ·obtain ⟨u0F, u1F, u2F, u3F, u4F, u5F, u6F, u7F, u8F, u9F, u10F⟩ := hU
  go_simp
 try simp only [Act.put, zej, zek, zel]
 refine Ever.take (i := 3) (v := (.agg #[.int .i64 r, .int .i64 m, .string t.name, .slice a3 t.kids.length c3, .slice a4 ks.length c4])) rfl (by kernel_rfl) (by kernel_rfl) (by kernel_rfl) (fun _ _ _ h => h) (Or.inl ⟨by rfl, fun U hU => ?_⟩) hF9 ?_
 ·obtain ⟨u0F, u1F, u2F, u3F, u4F, u5F, u6F, u7F, u8F, u9F, u10F⟩ := hU
  go_simp
 try simp only [Act.put, zej, zek, zel]
 refine Ever.take (i := 4) (v := (.agg #[.int .i64 r2, .int .i64 m2, .string t2.name, .slice x3 t2.kids.length y3, .slice x4 k2.length y4])) rfl (by kernel_rfl) (by kernel_rfl) (by kernel_rfl) (fun _ _ _ h => h) (Or.inl ⟨by rfl, fun U hU => ?_⟩) hF9 ?_
 ·obtain ⟨u0F, u1F, u2F, u3F, u4F, u5F, u6F, u7F, u8F, u9F, u10F⟩ := hU
  go_simp
 try simp only [Act.put, zej, zek, zel]
 refine Ever.one (i := 2) (by kernel_rfl) rfl (fun J9 hK => ?_)
 go_simp
 go_wp2_with (go_at_call 13; refine (za3 (.mk r m t ks) (.mk r2 m2 t2 k2) _ _ _ _ _ (by exact hra) (by exact hrb)).mono ?_; rintro e V1 ⟨rfl, hb⟩)
 rw [HE1.out]
 replace hra := hra.below hb
 replace hrb := hrb.below hb
 replace hrs := hrs.below hb
 replace hre := hre.below hb
 replace hrw := hrw.below hb
 replace hA := hA.below hb
 replace hC := hC.below hb
 replace hS := hS.below hb
 replace hW := hW.below hb
 replace hB := hB.trans (hb.mono hB.size)
 clear hb
 replace hF9 : (fun U : World => U.cell? ⟨aB, 0, none⟩ = some (.int .i64 r) ∧ U.cell? ⟨aB, 1, none⟩ = some (.int .i64 m) ∧ U.cell? ⟨aB, 2, none⟩ = some (.string t.name) ∧ U.cell? ⟨aB, 3, none⟩ = some (.slice a3 t.kids.length c3) ∧ U.cell? ⟨aB, 4, none⟩ = some (.slice a4 ks.length c4) ∧ U.cell? ⟨bB, 0, none⟩ = some (.int .i64 r2) ∧ U.cell? ⟨bB, 1, none⟩ = some (.int .i64 m2) ∧ U.cell? ⟨bB, 2, none⟩ = some (.string t2.name) ∧ U.cell? ⟨bB, 3, none⟩ = some (.slice x3 t2.kids.length y3) ∧ U.cell? ⟨bB, 4, none⟩ = some (.slice x4 k2.length y4) ∧ U.cell? ⟨sB, 0, none⟩ = some (.slice sa s.syms.length sc)) _ := ⟨hA.2.1 0 _ rfl, hA.2.1 1 _ rfl, hA.2.1 2 _ rfl, hA.2.1 3 _ rfl, hA.2.1 4 _ rfl, hC.2.1 0 _ rfl, hC.2.1 1 _ rfl, hC.2.1 2 _ rfl, hC.2.1 3 _ rfl, hC.2.1 4 _ rfl, hS.2.1 0 _ rfl⟩
 refine hK.out _ _ hF9 ?_
 clear hK
 try simp only [Act.put, zej, zek, zel]
 refine Ever.one (i := 5) (by kernel_rfl) rfl (fun J9 hK => ?_)
 go_simp
 go_wp2_with (go_at_call 14; refine (sameWyS_x (.mk r m t ks) (.mk r2 m2 t2 k2) _ _ _ _ _ (by exact hra) (by exact hrb)).mono ?_; rintro e V2 ⟨rfl, hb⟩)
 rw [HE1.out]
 replace hra := hra.below hb
 replace hrb := hrb.below hb
 replace hrs := hrs.below hb
 replace hre := hre.below hb
 replace hrw := hrw.below hb
 replace hA := hA.below hb
 replace hC := hC.below hb
 replace hS := hS.below hb
 replace hW := hW.below hb
 replace hB := hB.trans (hb.mono hB.size)
 clear hb
 replace hF9 : (fun U : World => U.cell? ⟨aB, 0, none⟩ = some (.int .i64 r) ∧ U.cell? ⟨aB, 1, none⟩ = some (.int .i64 m) ∧ U.cell? ⟨aB, 2, none⟩ = some (.string t.name) ∧ U.cell? ⟨aB, 3, none⟩ = some (.slice a3 t.kids.length c3) ∧ U.cell? ⟨aB, 4, none⟩ = some (.slice a4 ks.length c4) ∧ U.cell? ⟨bB, 0, none⟩ = some (.int .i64 r2) ∧ U.cell? ⟨bB, 1, none⟩ = some (.int .i64 m2) ∧ U.cell? ⟨bB, 2, none⟩ = some (.string t2.name) ∧ U.cell? ⟨bB, 3, none⟩ = some (.slice x3 t2.kids.length y3) ∧ U.cell? ⟨bB, 4, none⟩ = some (.slice x4 k2.length y4) ∧ U.cell? ⟨sB, 0, none⟩ = some (.slice sa s.syms.length sc)) _ := ⟨hA.2.1 0 _ rfl, hA.2.1 1 _ rfl, hA.2.1 2 _ rfl, hA.2.1 3 _ rfl, hA.2.1 4 _ rfl, hC.2.1 0 _ rfl, hC.2.1 1 _ rfl, hC.2.1 2 _ rfl, hC.2.1 3 _ rfl, hC.2.1 4 _ rfl, hS.2.1 0 _ rfl⟩
 refine hK.out _ _ hF9 ?_
 clear hK
 try simp only [Act.put, zej, zek, zel]
 refine Ever.take (i := 6) (v := (.bool false)) rfl (by kernel_rfl) (by kernel_rfl) (by kernel_rfl) (fun _ _ _ h => h) (Or.inl ⟨by rfl, fun U hU => ?_⟩) hF9 ?_
 ·obtain ⟨u0F, u1F, u2F, u3F, u4F, u5F, u6F, u7F, u8F, u9F, u10F⟩ := hU
  go_simp
 try simp only [Act.put, zej, zek, zel]
 refine Ever.take (i := 7) (v := (.bool false)) rfl (by kernel_rfl) (by kernel_rfl) (by kernel_rfl) (fun _ _ _ h => h) (Or.inl ⟨by rfl, fun U hU => ?_⟩) hF9 ?_
 ·obtain ⟨u0F, u1F, u2F, u3F, u4F, u5F, u6F, u7F, u8F, u9F, u10F⟩ := hU
  go_simp
 try simp only [Act.put, zej, zek, zel]
 refine Ever.take (i := 8) (v := (.agg #[.int .i64 r, .int .i64 m, .string t.name, .slice a3 t.kids.length c3, .slice a4 ks.length c4])) rfl (by kernel_rfl) (by kernel_rfl) (by kernel_rfl) (fun _ _ _ h => h) (Or.inl ⟨by go_simp, fun U hU => ?_⟩) hF9 ?_
 ·obtain ⟨u0F, u1F, u2F, u3F, u4F, u5F, u6F, u7F, u8F, u9F, u10F⟩ := hU
  go_simp
 try simp only [Act.put, zej, zek, zel]
 refine Ever.take (i := 9) (v := (.agg #[.int .i64 r2, .int .i64 m2, .string t2.name, .slice x3 t2.kids.length y3, .slice x4 k2.length y4])) rfl (by kernel_rfl) (by kernel_rfl) (by kernel_rfl) (fun _ _ _ h => h) (Or.inl ⟨by go_simp, fun U hU => ?_⟩) hF9 ?_
 ·obtain ⟨u0F, u1F, u2F, u3F, u4F, u5F, u6F, u7F, u8F, u9F, u10F⟩ := hU
  go_simp
 try simp only [Act.put, zej, zek, zel]
 refine Ever.take (i := 11) (v := (.agg #[.int .i64 r2, .int .i64 m2, .string t2.name, .slice x3 t2.kids.length y3, .slice x4 k2.length y4])) rfl (by kernel_rfl) (by kernel_rfl) (by kernel_rfl) (fun _ _ _ h => h) (Or.inl ⟨by go_simp, fun U hU => ?_⟩) hF9 ?_
 ·obtain ⟨u0F, u1F, u2F, u3F, u4F, u5F, u6F, u7F, u8F, u9F, u10F⟩ := hU
  go_simp
 try simp only [Act.put, zej, zek, zel]
 refine Ever.take (i := 12) (v := (.agg #[.int .i64 r, .int .i64 m, .string t.name, .slice a3 t.kids.length c3, .slice a4 ks.length c4])) rfl (by kernel_rfl) (by kernel_rfl) (by kernel_rfl) (fun _ _ _ h => h) (Or.inl ⟨by go_simp, fun U hU => ?_⟩) hF9 ?_
 ·obtain ⟨u0F, u1F, u2F, u3F, u4F, u5F, u6F, u7F, u8F, u9F, u10F⟩ := hU
  go_simp
 try simp only [Act.put, zej, zek, zel]
 refine Ever.one (i := 10) (by kernel_rfl) rfl (fun J9 hK => ?_)
 go_simp
 go_wp2_with (go_at_call 13; refine (za3 (.mk r m t ks) (.mk r2 m2 t2 k2) _ _ _ _ _ (by exact hra) (by exact hrb)).mono ?_; rintro e V3 ⟨rfl, hb⟩)
 rw [HE1.out]
 replace hra := hra.below hb
 replace hrb := hrb.below hb
 replace hrs := hrs.below hb
 replace hre := hre.below hb
 replace hrw := hrw.below hb
 replace hA := hA.below hb
 replace hC := hC.below hb
 replace hS := hS.below hb
 replace hW := hW.below hb
 replace hB := hB.trans (hb.mono hB.size)
 clear hb
 replace hF9 : (fun U : World => U.cell? ⟨aB, 0, none⟩ = some (.int .i64 r) ∧ U.cell? ⟨aB, 1, none⟩ = some (.int .i64 m) ∧ U.cell? ⟨aB, 2, none⟩ = some (.string t.name) ∧ U.cell? ⟨aB, 3, none⟩ = some (.slice a3 t.kids.length c3) ∧ U.cell? ⟨aB, 4, none⟩ = some (.slice a4 ks.length c4) ∧ U.cell? ⟨bB, 0, none⟩ = some (.int .i64 r2) ∧ U.cell? ⟨bB, 1, none⟩ = some (.int .i64 m2) ∧ U.cell? ⟨bB, 2, none⟩ = some (.string t2.name) ∧ U.cell? ⟨bB, 3, none⟩ = some (.slice x3 t2.kids.length y3) ∧ U.cell? ⟨bB, 4, none⟩ = some (.slice x4 k2.length y4) ∧ U.cell? ⟨sB, 0, none⟩ = some (.slice sa s.syms.length sc)) _ := ⟨hA.2.1 0 _ rfl, hA.2.1 1 _ rfl, hA.2.1 2 _ rfl, hA.2.1 3 _ rfl, hA.2.1 4 _ rfl, hC.2.1 0 _ rfl, hC.2.1 1 _ rfl, hC.2.1 2 _ rfl, hC.2.1 3 _ rfl, hC.2.1 4 _ rfl, hS.2.1 0 _ rfl⟩
 refine hK.out _ _ hF9 ?_
 clear hK
 try simp only [Act.put, zej, zek, zel]
 refine Ever.one (i := 13) (by kernel_rfl) rfl (fun J9 hK => ?_)
 go_simp
 go_wp2_with (go_at_call 13; refine (za3 (.mk r2 m2 t2 k2) (.mk r m t ks) _ _ _ _ _ (by exact hrb) (by exact hra)).mono ?_; rintro e V4 ⟨rfl, hb⟩)
 rw [HE2.out]
 replace hra := hra.below hb
 replace hrb := hrb.below hb
 replace hrs := hrs.below hb
 replace hre := hre.below hb
 replace hrw := hrw.below hb
 replace hA := hA.below hb
 replace hC := hC.below hb
 replace hS := hS.below hb
 replace hW := hW.below hb
 replace hB := hB.trans (hb.mono hB.size)
 clear hb
 replace hF9 : (fun U : World => U.cell? ⟨aB, 0, none⟩ = some (.int .i64 r) ∧ U.cell? ⟨aB, 1, none⟩ = some (.int .i64 m) ∧ U.cell? ⟨aB, 2, none⟩ = some (.string t.name) ∧ U.cell? ⟨aB, 3, none⟩ = some (.slice a3 t.kids.length c3) ∧ U.cell? ⟨aB, 4, none⟩ = some (.slice a4 ks.length c4) ∧ U.cell? ⟨bB, 0, none⟩ = some (.int .i64 r2) ∧ U.cell? ⟨bB, 1, none⟩ = some (.int .i64 m2) ∧ U.cell? ⟨bB, 2, none⟩ = some (.string t2.name) ∧ U.cell? ⟨bB, 3, none⟩ = some (.slice x3 t2.kids.length y3) ∧ U.cell? ⟨bB, 4, none⟩ = some (.slice x4 k2.length y4) ∧ U.cell? ⟨sB, 0, none⟩ = some (.slice sa s.syms.length sc)) _ := ⟨hA.2.1 0 _ rfl, hA.2.1 1 _ rfl, hA.2.1 2 _ rfl, hA.2.1 3 _ rfl, hA.2.1 4 _ rfl, hC.2.1 0 _ rfl, hC.2.1 1 _ rfl, hC.2.1 2 _ rfl, hC.2.1 3 _ rfl, hC.2.1 4 _ rfl, hS.2.1 0 _ rfl⟩
 refine hK.out _ _ hF9 ?_
 clear hK
 try simp only [Act.put, zej, zek, zel]
 refine Ever.take (i := 14) (v := (.bool false)) rfl (by kernel_rfl) (by kernel_rfl) (by kernel_rfl) (fun _ _ _ h => h) (Or.inl ⟨by go_simp, fun U hU => ?_⟩) hF9 ?_
 ·obtain ⟨u0F, u1F, u2F, u3F, u4F, u5F, u6F, u7F, u8F, u9F, u10F⟩ := hU
  go_simp
 try simp only [Act.put, zej, zek, zel]
 refine Ever.take (i := 15) (v := (.bool false)) rfl (by kernel_rfl) (by kernel_rfl) (by kernel_rfl) (fun _ _ _ h => h) (Or.inl ⟨by rfl, fun U hU => ?_⟩) hF9 ?_
 ·obtain ⟨u0F, u1F, u2F, u3F, u4F, u5F, u6F, u7F, u8F, u9F, u10F⟩ := hU
  go_simp
 try simp only [Act.put, zej, zek, zel]
 refine Ever.take (i := 16) (v := (.bool false)) rfl (by kernel_rfl) (by kernel_rfl) (by kernel_rfl) (fun _ _ _ h => h) (Or.inl ⟨by rfl, fun U hU => ?_⟩) hF9 ?_
 ·obtain ⟨u0F, u1F, u2F, u3F, u4F, u5F, u6F, u7F, u8F, u9F, u10F⟩ := hU
  go_simp
 try simp only [Act.put, zej, zek, zel]
 refine Ever.take (i := 17) (v := (.agg #[.int .i64 r, .int .i64 m, .string t.name, .slice a3 t.kids.length c3, .slice a4 ks.length c4])) rfl (by kernel_rfl) (by kernel_rfl) (by kernel_rfl) (fun _ _ _ h => h) (Or.inl ⟨by go_simp, fun U hU => ?_⟩) hF9 ?_
 ·obtain ⟨u0F, u1F, u2F, u3F, u4F, u5F, u6F, u7F, u8F, u9F, u10F⟩ := hU
  go_simp
 try simp only [Act.put, zej, zek, zel]
 refine Ever.take (i := 18) (v := (.agg #[.int .i64 r, .int .i64 m, .string t.name, .slice a3 t.kids.length c3, .slice a4 ks.length c4])) rfl (by kernel_rfl) (by kernel_rfl) (by kernel_rfl) (fun _ _ _ h => h) (Or.inl ⟨by go_simp, fun U hU => ?_⟩) hF9 ?_
 ·obtain ⟨u0F, u1F, u2F, u3F, u4F, u5F, u6F, u7F, u8F, u9F, u10F⟩ := hU
  go_simp
 try simp only [Act.put, zej, zek, zel]
 refine Ever.one (i := 19) (by kernel_rfl) rfl (fun J9 hK => ?_)
 go_simp
 go_wp2_with (go_at_call 13; refine (za3 (.mk r m t ks) (.mk r m t ks) _ _ _ _ _ (by exact hra) (by exact hra)).mono ?_; rintro e V5 ⟨rfl, hb⟩)
 rw [HE3.out]
 replace hra := hra.below hb
 replace hrb := hrb.below hb
 replace hrs := hrs.below hb
 replace hre := hre.below hb
 replace hrw := hrw.below hb
 replace hA := hA.below hb
 replace hC := hC.below hb
 replace hS := hS.below hb
 replace hW := hW.below hb
 replace hB := hB.trans (hb.mono hB.size)
 clear hb
 replace hF9 : (fun U : World => U.cell? ⟨aB, 0, none⟩ = some (.int .i64 r) ∧ U.cell? ⟨aB, 1, none⟩ = some (.int .i64 m) ∧ U.cell? ⟨aB, 2, none⟩ = some (.string t.name) ∧ U.cell? ⟨aB, 3, none⟩ = some (.slice a3 t.kids.length c3) ∧ U.cell? ⟨aB, 4, none⟩ = some (.slice a4 ks.length c4) ∧ U.cell? ⟨bB, 0, none⟩ = some (.int .i64 r2) ∧ U.cell? ⟨bB, 1, none⟩ = some (.int .i64 m2) ∧ U.cell? ⟨bB, 2, none⟩ = some (.string t2.name) ∧ U.cell? ⟨bB, 3, none⟩ = some (.slice x3 t2.kids.length y3) ∧ U.cell? ⟨bB, 4, none⟩ = some (.slice x4 k2.length y4) ∧ U.cell? ⟨sB, 0, none⟩ = some (.slice sa s.syms.length sc)) _ := ⟨hA.2.1 0 _ rfl, hA.2.1 1 _ rfl, hA.2.1 2 _ rfl, hA.2.1 3 _ rfl, hA.2.1 4 _ rfl, hC.2.1 0 _ rfl, hC.2.1 1 _ rfl, hC.2.1 2 _ rfl, hC.2.1 3 _ rfl, hC.2.1 4 _ rfl, hS.2.1 0 _ rfl⟩
 refine hK.out _ _ hF9 ?_
 clear hK
 try simp only [Act.put, zej, zek, zel]
 refine Ever.take (i := 20) (v := (.bool false)) rfl (by kernel_rfl) (by kernel_rfl) (by kernel_rfl) (fun _ _ _ h => h) (Or.inl ⟨by go_simp, fun U hU => ?_⟩) hF9 ?_
 ·obtain ⟨u0F, u1F, u2F, u3F, u4F, u5F, u6F, u7F, u8F, u9F, u10F⟩ := hU
  go_simp
 try simp only [Act.put, zej, zek, zel]
 refine Ever.take (i := 21) (v := (.bool false)) rfl (by kernel_rfl) (by kernel_rfl) (by kernel_rfl) (fun _ _ _ h => h) (Or.inl ⟨by rfl, fun U hU => ?_⟩) hF9 ?_
 ·obtain ⟨u0F, u1F, u2F, u3F, u4F, u5F, u6F, u7F, u8F, u9F, u10F⟩ := hU
  go_simp
 try simp only [Act.put, zej, zek, zel]
 refine Ever.take (i := 22) (v := (.bool false)) rfl (by kernel_rfl) (by kernel_rfl) (by kernel_rfl) (fun _ _ _ h => h) (Or.inl ⟨by rfl, fun U hU => ?_⟩) hF9 ?_
 ·obtain ⟨u0F, u1F, u2F, u3F, u4F, u5F, u6F, u7F, u8F, u9F, u10F⟩ := hU
  go_simp
 try simp only [Act.put, zej, zek, zel]
 refine Ever.take (i := 23) (v := (.agg #[.int .i64 r, .int .i64 m, .string t.name, .slice a3 t.kids.length c3, .slice a4 ks.length c4])) rfl (by kernel_rfl) (by kernel_rfl) (by kernel_rfl) (fun _ _ _ h => h) (Or.inl ⟨by go_simp, fun U hU => ?_⟩) hF9 ?_
 ·obtain ⟨u0F, u1F, u2F, u3F, u4F, u5F, u6F, u7F, u8F, u9F, u10F⟩ := hU
  go_simp
 try simp only [Act.put, zej, zek, zel]
 refine Ever.take (i := 25) (v := (.agg #[.int .i64 r, .int .i64 m, .string t.name, .slice a3 t.kids.length c3, .slice a4 ks.length c4])) rfl (by kernel_rfl) (by kernel_rfl) (by kernel_rfl) (fun _ _ _ h => h) (Or.inl ⟨by go_simp, fun U hU => ?_⟩) hF9 ?_
 ·obtain ⟨u0F, u1F, u2F, u3F, u4F, u5F, u6F, u7F, u8F, u9F, u10F⟩ := hU
  go_simp
 try simp only [Act.put, zej, zek, zel]
 refine Ever.one (i := 24) (by kernel_rfl) rfl (fun J9 hK => ?_)
 go_simp
 go_wp2_with (go_at_call 9; refine (zdx (.mk r m t ks) _ _ _ HTA.out HUA.out (by exact hra)).mono ?_; rintro e V6 ⟨lv, lf, rfl, hrl, _, hb⟩)
 replace hra := hra.below hb
 replace hrb := hrb.below hb
 replace hrs := hrs.below hb
 replace hre := hre.below hb
 replace hrw := hrw.below hb
 replace hA := hA.below hb
 replace hC := hC.below hb
 replace hS := hS.below hb
 replace hW := hW.below hb
 replace hB := hB.trans (hb.mono hB.size)
 clear hb
 replace hF9 : (fun U : World => U.cell? ⟨aB, 0, none⟩ = some (.int .i64 r) ∧ U.cell? ⟨aB, 1, none⟩ = some (.int .i64 m) ∧ U.cell? ⟨aB, 2, none⟩ = some (.string t.name) ∧ U.cell? ⟨aB, 3, none⟩ = some (.slice a3 t.kids.length c3) ∧ U.cell? ⟨aB, 4, none⟩ = some (.slice a4 ks.length c4) ∧ U.cell? ⟨bB, 0, none⟩ = some (.int .i64 r2) ∧ U.cell? ⟨bB, 1, none⟩ = some (.int .i64 m2) ∧ U.cell? ⟨bB, 2, none⟩ = some (.string t2.name) ∧ U.cell? ⟨bB, 3, none⟩ = some (.slice x3 t2.kids.length y3) ∧ U.cell? ⟨bB, 4, none⟩ = some (.slice x4 k2.length y4) ∧ U.cell? ⟨sB, 0, none⟩ = some (.slice sa s.syms.length sc)) _ := ⟨hA.2.1 0 _ rfl, hA.2.1 1 _ rfl, hA.2.1 2 _ rfl, hA.2.1 3 _ rfl, hA.2.1 4 _ rfl, hC.2.1 0 _ rfl, hC.2.1 1 _ rfl, hC.2.1 2 _ rfl, hC.2.1 3 _ rfl, hC.2.1 4 _ rfl, hS.2.1 0 _ rfl⟩
 refine hK.out _ _ hF9 ?_
 clear hK
 try simp only [Act.put, zej, zek, zel]
 refine Ever.one (i := 26) (by kernel_rfl) rfl (fun J9 hK => ?_)
 go_simp
 go_wp2_with (go_at_call 16; refine (zc7 (.mk r m t ks) _ _ _ HTA.out HUA.out (by exact hra)).mono ?_; rintro e V7 ⟨mv, mf, rfl, hrm, hb⟩)
 replace hra := hra.below hb
 replace hrb := hrb.below hb
 replace hrs := hrs.below hb
 replace hre := hre.below hb
 replace hrw := hrw.below hb
 replace hA := hA.below hb
 replace hC := hC.below hb
 replace hS := hS.below hb
 replace hW := hW.below hb
 replace hrl := hrl.below hb
 replace hB := hB.trans (hb.mono hB.size)
 clear hb
 replace hF9 : (fun U : World => U.cell? ⟨aB, 0, none⟩ = some (.int .i64 r) ∧ U.cell? ⟨aB, 1, none⟩ = some (.int .i64 m) ∧ U.cell? ⟨aB, 2, none⟩ = some (.string t.name) ∧ U.cell? ⟨aB, 3, none⟩ = some (.slice a3 t.kids.length c3) ∧ U.cell? ⟨aB, 4, none⟩ = some (.slice a4 ks.length c4) ∧ U.cell? ⟨bB, 0, none⟩ = some (.int .i64 r2) ∧ U.cell? ⟨bB, 1, none⟩ = some (.int .i64 m2) ∧ U.cell? ⟨bB, 2, none⟩ = some (.string t2.name) ∧ U.cell? ⟨bB, 3, none⟩ = some (.slice x3 t2.kids.length y3) ∧ U.cell? ⟨bB, 4, none⟩ = some (.slice x4 k2.length y4) ∧ U.cell? ⟨sB, 0, none⟩ = some (.slice sa s.syms.length sc)) _ := ⟨hA.2.1 0 _ rfl, hA.2.1 1 _ rfl, hA.2.1 2 _ rfl, hA.2.1 3 _ rfl, hA.2.1 4 _ rfl, hC.2.1 0 _ rfl, hC.2.1 1 _ rfl, hC.2.1 2 _ rfl, hC.2.1 3 _ rfl, hC.2.1 4 _ rfl, hS.2.1 0 _ rfl⟩
 refine hK.out _ _ hF9 ?_
 clear hK
 try simp only [Act.put, zej, zek, zel]
 refine Ever.one (i := 27) (by kernel_rfl) rfl (fun J9 hK => ?_)
 go_simp
 go_wp2_with (go_at_call 15; refine (zdu _ _ _ _ _ _ (by exact hrl) (by exact hrm)).mono ?_; rintro e V8 ⟨rfl, hb⟩)
 clear hrl hrm
 replace hra := hra.below hb
 replace hrb := hrb.below hb
 replace hrs := hrs.below hb
 replace hre := hre.below hb
 replace hrw := hrw.below hb
 replace hA := hA.below hb
 replace hC := hC.below hb
 replace hS := hS.below hb
 replace hW := hW.below hb
 replace hB := hB.trans (hb.mono hB.size)
 clear hb
 replace hF9 : (fun U : World => U.cell? ⟨aB, 0, none⟩ = some (.int .i64 r) ∧ U.cell? ⟨aB, 1, none⟩ = some (.int .i64 m) ∧ U.cell? ⟨aB, 2, none⟩ = some (.string t.name) ∧ U.cell? ⟨aB, 3, none⟩ = some (.slice a3 t.kids.length c3) ∧ U.cell? ⟨aB, 4, none⟩ = some (.slice a4 ks.length c4) ∧ U.cell? ⟨bB, 0, none⟩ = some (.int .i64 r2) ∧ U.cell? ⟨bB, 1, none⟩ = some (.int .i64 m2) ∧ U.cell? ⟨bB, 2, none⟩ = some (.string t2.name) ∧ U.cell? ⟨bB, 3, none⟩ = some (.slice x3 t2.kids.length y3) ∧ U.cell? ⟨bB, 4, none⟩ = some (.slice x4 k2.length y4) ∧ U.cell? ⟨sB, 0, none⟩ = some (.slice sa s.syms.length sc)) _ := ⟨hA.2.1 0 _ rfl, hA.2.1 1 _ rfl, hA.2.1 2 _ rfl, hA.2.1 3 _ rfl, hA.2.1 4 _ rfl, hC.2.1 0 _ rfl, hC.2.1 1 _ rfl, hC.2.1 2 _ rfl, hC.2.1 3 _ rfl, hC.2.1 4 _ rfl, hS.2.1 0 _ rfl⟩
 refine hK.out _ _ hF9 ?_
 clear hK
 try simp only [Act.put, zej, zek, zel]
 refine Ever.take (i := 28) (v := (.bool false)) rfl (by kernel_rfl) (by kernel_rfl) (by kernel_rfl) (fun _ _ _ h => h) (Or.inl ⟨by go_simp, fun U hU => ?_⟩) hF9 ?_
 ·obtain ⟨u0F, u1F, u2F, u3F, u4F, u5F, u6F, u7F, u8F, u9F, u10F⟩ := hU
  go_simp
 try simp only [Act.put, zej, zek, zel]
 refine Ever.take (i := 29) (v := (.bool false)) rfl (by kernel_rfl) (by kernel_rfl) (by kernel_rfl) (fun _ _ _ h => h) (Or.inl ⟨by rfl, fun U hU => ?_⟩) hF9 ?_
 ·obtain ⟨u0F, u1F, u2F, u3F, u4F, u5F, u6F, u7F, u8F, u9F, u10F⟩ := hU
  go_simp
 try simp only [Act.put, zej, zek, zel]
 refine Ever.take (i := 30) (v := (.bool false)) rfl (by kernel_rfl) (by kernel_rfl) (by kernel_rfl) (fun _ _ _ h => h) (Or.inl ⟨by rfl, fun U hU => ?_⟩) hF9 ?_
 ·obtain ⟨u0F, u1F, u2F, u3F, u4F, u5F, u6F, u7F, u8F, u9F, u10F⟩ := hU
  go_simp
 try simp only [Act.put, zej, zek, zel]
 refine Ever.take (i := 31) (v := (.agg #[.slice sa s.syms.length sc])) rfl (by kernel_rfl) (by kernel_rfl) (by kernel_rfl) (fun _ _ _ h => h) (Or.inl ⟨by go_simp, fun U hU => ?_⟩) hF9 ?_
 ·obtain ⟨u0F, u1F, u2F, u3F, u4F, u5F, u6F, u7F, u8F, u9F, u10F⟩ := hU
  go_simp
 try simp only [Act.put, zej, zek, zel]
 refine Ever.take (i := 32) (v := (.slice evA es.length evC)) rfl (by kernel_rfl) (by kernel_rfl) (by kernel_rfl) (fun _ _ _ h => h) (Or.inl ⟨by go_simp, fun U hU => ?_⟩) hF9 ?_
 ·obtain ⟨u0F, u1F, u2F, u3F, u4F, u5F, u6F, u7F, u8F, u9F, u10F⟩ := hU
  go_simp
 try simp only [Act.put, zej, zek, zel]
 refine Ever.take (i := 34) (v := (.agg #[.slice sa s.syms.length sc])) rfl (by kernel_rfl) (by kernel_rfl) (by kernel_rfl) (fun _ _ _ h => h) (Or.inl ⟨by go_simp, fun U hU => ?_⟩) hF9 ?_
 ·obtain ⟨u0F, u1F, u2F, u3F, u4F, u5F, u6F, u7F, u8F, u9F, u10F⟩ := hU
  go_simp
 try simp only [Act.put, zej, zek, zel]
 refine Ever.take (i := 35) (v := (.slice evA es.length evC)) rfl (by kernel_rfl) (by kernel_rfl) (by kernel_rfl) (fun _ _ _ h => h) (Or.inl ⟨by go_simp, fun U hU => ?_⟩) hF9 ?_
 ·obtain ⟨u0F, u1F, u2F, u3F, u4F, u5F, u6F, u7F, u8F, u9F, u10F⟩ := hU
  go_simp
 try simp only [Act.put, zej, zek, zel]
 refine Ever.one (i := 33) (by kernel_rfl) rfl (fun J9 hK => ?_)
 go_simp
 go_wp2_with (go_at_call 17; refine (zbz s es _ _ _ _ _ (by omega) (by omega) (by exact hrs) (by exact hre)).mono ?_; rintro e V9 ⟨rfl, hb⟩)
 rw [HOK.out]
 replace hra := hra.below hb
 replace hrb := hrb.below hb
 replace hrs := hrs.below hb
 replace hre := hre.below hb
 replace hrw := hrw.below hb
 replace hA := hA.below hb
 replace hC := hC.below hb
 replace hS := hS.below hb
 replace hW := hW.below hb
 replace hB := hB.trans (hb.mono hB.size)
 clear hb
 replace hF9 : (fun U : World => U.cell? ⟨aB, 0, none⟩ = some (.int .i64 r) ∧ U.cell? ⟨aB, 1, none⟩ = some (.int .i64 m) ∧ U.cell? ⟨aB, 2, none⟩ = some (.string t.name) ∧ U.cell? ⟨aB, 3, none⟩ = some (.slice a3 t.kids.length c3) ∧ U.cell? ⟨aB, 4, none⟩ = some (.slice a4 ks.length c4) ∧ U.cell? ⟨bB, 0, none⟩ = some (.int .i64 r2) ∧ U.cell? ⟨bB, 1, none⟩ = some (.int .i64 m2) ∧ U.cell? ⟨bB, 2, none⟩ = some (.string t2.name) ∧ U.cell? ⟨bB, 3, none⟩ = some (.slice x3 t2.kids.length y3) ∧ U.cell? ⟨bB, 4, none⟩ = some (.slice x4 k2.length y4) ∧ U.cell? ⟨sB, 0, none⟩ = some (.slice sa s.syms.length sc)) _ := ⟨hA.2.1 0 _ rfl, hA.2.1 1 _ rfl, hA.2.1 2 _ rfl, hA.2.1 3 _ rfl, hA.2.1 4 _ rfl, hC.2.1 0 _ rfl, hC.2.1 1 _ rfl, hC.2.1 2 _ rfl, hC.2.1 3 _ rfl, hC.2.1 4 _ rfl, hS.2.1 0 _ rfl⟩
 refine hK.out _ _ hF9 ?_
 clear hK
 try simp only [Act.put, zej, zek, zel]
 refine Ever.one (i := 36) (by kernel_rfl) rfl (fun J9 hK => ?_)
 go_simp
 go_wp2_with (go_at_call 18; refine (za8 s es _ _ _ _ _ (by omega) (by exact hrs) (by exact hre)).mono ?_; rintro e VA ⟨rfl, hb⟩)
 rw [HOK.out]
 replace hra := hra.below hb
 replace hrb := hrb.below hb
 replace hrs := hrs.below hb
 replace hre := hre.below hb
 replace hrw := hrw.below hb
 replace hA := hA.below hb
 replace hC := hC.below hb
 replace hS := hS.below hb
 replace hW := hW.below hb
 replace hB := hB.trans (hb.mono hB.size)
 clear hb
 replace hF9 : (fun U : World => U.cell? ⟨aB, 0, none⟩ = some (.int .i64 r) ∧ U.cell? ⟨aB, 1, none⟩ = some (.int .i64 m) ∧ U.cell? ⟨aB, 2, none⟩ = some (.string t.name) ∧ U.cell? ⟨aB, 3, none⟩ = some (.slice a3 t.kids.length c3) ∧ U.cell? ⟨aB, 4, none⟩ = some (.slice a4 ks.length c4) ∧ U.cell? ⟨bB, 0, none⟩ = some (.int .i64 r2) ∧ U.cell? ⟨bB, 1, none⟩ = some (.int .i64 m2) ∧ U.cell? ⟨bB, 2, none⟩ = some (.string t2.name) ∧ U.cell? ⟨bB, 3, none⟩ = some (.slice x3 t2.kids.length y3) ∧ U.cell? ⟨bB, 4, none⟩ = some (.slice x4 k2.length y4) ∧ U.cell? ⟨sB, 0, none⟩ = some (.slice sa s.syms.length sc)) _ := ⟨hA.2.1 0 _ rfl, hA.2.1 1 _ rfl, hA.2.1 2 _ rfl, hA.2.1 3 _ rfl, hA.2.1 4 _ rfl, hC.2.1 0 _ rfl, hC.2.1 1 _ rfl, hC.2.1 2 _ rfl, hC.2.1 3 _ rfl, hC.2.1 4 _ rfl, hS.2.1 0 _ rfl⟩
 refine hK.out _ _ hF9 ?_
 clear hK
 try simp only [Act.put, zej, zek, zel]
 refine Ever.take (i := 37) (v := (.bool false)) rfl (by kernel_rfl) (by kernel_rfl) (by kernel_rfl) (fun _ _ _ h => h) (Or.inl ⟨by go_simp, fun U hU => ?_⟩) hF9 ?_
 ·obtain ⟨u0F, u1F, u2F, u3F, u4F, u5F, u6F, u7F, u8F, u9F, u10F⟩ := hU
  go_simp
 try simp only [Act.put, zej, zek, zel]
 refine Ever.take (i := 38) (v := (.bool false)) rfl (by kernel_rfl) (by kernel_rfl) (by kernel_rfl) (fun _ _ _ h => h) (Or.inl ⟨by rfl, fun U hU => ?_⟩) hF9 ?_
 ·obtain ⟨u0F, u1F, u2F, u3F, u4F, u5F, u6F, u7F, u8F, u9F, u10F⟩ := hU
  go_simp
 try simp only [Act.put, zej, zek, zel]
 refine Ever.done (by kernel_rfl) ?_ _
 clear hF9
 clear n1 n2 HE1 HE2 HE3 HOK HTA HUA hrb hC
 obtain ⟨o, HO⟩ : ∃ o, Hid (whyT s es (.mk ru mu tu ku) = o) := ⟨_, Lib.hid rfl⟩
 obtain ⟨q, HQ⟩ : ∃ q, Hid (o.getD Eqn.zero = q) := ⟨_, Lib.hid rfl⟩
 obtain ⟨ok, HK⟩ : ∃ b, Hid (o.isSome = b) := ⟨_, Lib.hid rfl⟩
 obtain ⟨o2, HO2⟩ : ∃ o, Hid (whyT s es (Wy.mk 3 0 ⟨⟨#[]⟩, []⟩ [Wy.mk 3 0 ⟨⟨#[]⟩, []⟩ [Wy.mk ru mu tu ku]]) = o) := ⟨_, Lib.hid rfl⟩
 obtain ⟨q2, HQ2⟩ : ∃ q, Hid (o2.getD Eqn.zero = q) := ⟨_, Lib.hid rfl⟩
 obtain ⟨ok2, HK2⟩ : ∃ b, Hid (o2.isSome = b) := ⟨_, Lib.hid rfl⟩
 have s0 := hS.2.1 0 _ rfl; have k0 := hW.2.1 0 _ rfl; have k1 := hW.2.1 1 _ rfl; have k2 := hW.2.1 2 _ rfl; have k3 := hW.2.1 3 _ rfl; have k4 := hW.2.1 4 _ rfl
 go_wp2_with fail
 refine (zbk s es (.mk ru mu tu ku) _ _ _ _ _ _ _ (by omega) (by omega) HTH.out (by exact hrs) (by exact hre) (by exact hrw)).mono ?_
 rintro e w5 ⟨us, fs, rfl, hru, _, hb⟩
 rw [HO.out, HQ.out] at hru
 rw [HO.out, HK.out]
 clear s0 k0 k1 k2 k3 k4
 replace hra := hra.below hb
 replace hrs := hrs.below hb
 replace hre := hre.below hb
 replace hrw := hrw.below hb
 replace hA := hA.below hb
 replace hS := hS.below hb
 replace hW := hW.below hb
 replace hB := hB.trans (hb.mono hB.size)
 clear hb
 obtain ⟨p1, p2, f1, p3, p4, f3, rfl, rfl, e0, e1, e2, e3⟩ := Eqn.open hru
 clear hru
 obtain ⟨eB, heB⟩ : ∃ F, F = w5.heap.size := ⟨_, rfl⟩
 have hE := Box.new w5 [.string q.a.name, .slice p1 q.a.kids.length p2, .string q.b.name, .slice p3 q.b.kids.length p4] 36
 rw [← heB] at hE
 go_upto_region 8 with fail
 try rw [← heB]
 have hb := zb w5 (.cells #[.string q.a.name, .slice p1 q.a.kids.length p2, .string q.b.name, .slice p3 q.b.kids.length p4] 36)
 replace hra := hra.below hb
 replace hrs := hrs.below hb
 replace hre := hre.below hb
 replace hrw := hrw.below hb
 replace hA := hA.below hb
 replace hS := hS.below hb
 replace hW := hW.below hb
 replace e1 := e1.below hb
 replace e3 := e3.below hb
 replace hB := hB.trans (hb.mono hB.size)
 clear hb
 clear heB
 generalize w5.alloc (.cells #[.string q.a.name, .slice p1 q.a.kids.length p2, .string q.b.name, .slice p3 q.b.kids.length p4] 36) = w6 at *
 obtain ⟨h1f, h1r⟩ := sym_rd hrw
 obtain ⟨h2f, hrt⟩ := sym_rd h1r
 rw [World.size_alloc] at hrt
 clear h1r
 have hba : Below w6.heap.size w6 ((w6.alloc (.cells #[.int .i64 ru, .int .i64 mu, .string tu.name, .slice d3 tu.kids.length g3, .slice d4 ku.length g4] 32)).alloc (.cells #[.int .i64 3, .int .i64 0, .string ⟨#[]⟩, .slice none 0 0, .slice (some ⟨w6.heap.size, 0, none⟩) 1 1] 32)) := ((Below.refl _ _).alloc (Nat.le_refl _) _).alloc (by simp) _
 have hT := Box.new ((w6.alloc (.cells #[.int .i64 ru, .int .i64 mu, .string tu.name, .slice d3 tu.kids.length g3, .slice d4 ku.length g4] 32)).alloc (.cells #[.int .i64 3, .int .i64 0, .string ⟨#[]⟩, .slice none 0 0, .slice (some ⟨w6.heap.size, 0, none⟩) 1 1] 32)) [.int .i64 3, .int .i64 0, .string ⟨#[]⟩, .slice none 0 0, .slice (some ⟨w6.heap.size + 1, 0, none⟩) 1 1] 32
 have hba2 := hba.alloc (by simp; omega) (.cells #[.int .i64 3, .int .i64 0, .string ⟨#[]⟩, .slice none 0 0, .slice (some ⟨w6.heap.size + 1, 0, none⟩) 1 1] 32)
 have hrt2 := hrt.below (zb _ (.cells #[.int .i64 3, .int .i64 0, .string ⟨#[]⟩, .slice none 0 0, .slice (some ⟨w6.heap.size + 1, 0, none⟩) 1 1] 32))
 have k0 := hW.2.1 0 _ rfl; have k1 := hW.2.1 1 _ rfl; have k2 := hW.2.1 2 _ rfl; have k3 := hW.2.1 3 _ rfl; have k4 := hW.2.1 4 _ rfl
 go_upto_region 9 with fail
 clear k0 k1 k2 k3 k4 hrt hba
 replace hb := hba2
 clear hba2
 replace hra := hra.below hb
 replace hrs := hrs.below hb
 replace hre := hre.below hb
 replace hrw := hrw.below hb
 replace hA := hA.below hb
 replace hS := hS.below hb
 replace hW := hW.below hb
 replace hE := hE.below hb
 replace e1 := e1.below hb
 replace e3 := e3.below hb
 replace hB := hB.trans (hb.mono hB.size)
 clear hb
 simp only [World.size_alloc] at hT ⊢
 have hT9 := hT
 clear hT
 generalize ((w6.alloc (.cells #[.int .i64 ru, .int .i64 mu, .string tu.name, .slice d3 tu.kids.length g3, .slice d4 ku.length g4] 32)).alloc (.cells #[.int .i64 3, .int .i64 0, .string ⟨#[]⟩, .slice none 0 0, .slice (some ⟨w6.heap.size, 0, none⟩) 1 1] 32)).alloc (.cells #[.int .i64 3, .int .i64 0, .string ⟨#[]⟩, .slice none 0 0, .slice (some ⟨w6.heap.size + 1, 0, none⟩) 1 1] 32) = w7 at *
 obtain ⟨tB, htB⟩ : ∃ z, z = w6.heap.size + 1 + 1 := ⟨_, rfl⟩
 obtain ⟨kB, hkB⟩ : ∃ z, z = w6.heap.size + 1 := ⟨_, rfl⟩
 try rw [← htB] at hT9 ⊢
 try rw [← hkB] at hT9 hrt2 ⊢
 clear htB hkB
 have hT := hT9
 clear hT9
 have hrt := hrt2
 clear hrt2
 have HTW : Hid (Wy.mk 3 0 ⟨⟨#[]⟩, []⟩ [Wy.mk 3 0 ⟨⟨#[]⟩, []⟩ [Wy.mk ru mu tu ku]]).thin := Lib.hid (.mk _ _ _ _ (by rw [Tm.size_eq]; simp [Tm.kids, Tm.sizes]) (by simp) (fun y hy => by
  obtain rfl := List.mem_singleton.1 hy
  exact .mk _ _ _ _ (by rw [Tm.size_eq]; simp [Tm.kids, Tm.sizes]) (by simp) (fun z hz => by
   obtain rfl := List.mem_singleton.1 hz
   exact HTH.out)))
 have s0 := hS.2.1 0 _ rfl; have k0 := hT.2.1 0 _ rfl; have k1 := hT.2.1 1 _ rfl; have k2 := hT.2.1 2 _ rfl; have k3 := hT.2.1 3 _ rfl; have k4 := hT.2.1 4 _ rfl
 go_wp2_with fail
 refine (zbk s es (Wy.mk 3 0 ⟨⟨#[]⟩, []⟩ [Wy.mk 3 0 ⟨⟨#[]⟩, []⟩ [Wy.mk ru mu tu ku]]) _ _ _ _ _ _ _ (by omega) (by omega) HTW.out (by exact hrs) (by exact hre) (by exact hrt)).mono ?_
 rintro e w8 ⟨us, fs, rfl, hru, _, hb⟩
 rw [HO2.out, HQ2.out] at hru
 rw [HO2.out, HK2.out]
 clear s0 k0 k1 k2 k3 k4
 replace hra := hra.below hb
 replace hrs := hrs.below hb
 replace hre := hre.below hb
 replace hrw := hrw.below hb
 replace hA := hA.below hb
 replace hS := hS.below hb
 replace hW := hW.below hb
 replace hE := hE.below hb
 replace e1 := e1.below hb
 replace e3 := e3.below hb
 replace hB := hB.trans (hb.mono hB.size)
 clear hb
 obtain ⟨u1, u2, h1, u3, u4, h3, rfl, rfl, g0, g1, g2, g3'⟩ := Eqn.open hru
 clear hru hrt hT HTW
 obtain ⟨xB, hxB⟩ : ∃ F, F = w8.heap.size := ⟨_, rfl⟩
 have hX := Box.new w8 [.string q2.a.name, .slice u1 q2.a.kids.length u2, .string q2.b.name, .slice u3 q2.b.kids.length u4] 36
 rw [← hxB] at hX
 go_upto_region 10 with fail
 try rw [← hxB]
 have hb := zb w8 (.cells #[.string q2.a.name, .slice u1 q2.a.kids.length u2, .string q2.b.name, .slice u3 q2.b.kids.length u4] 36)
 replace hra := hra.below hb
 replace hrs := hrs.below hb
 replace hre := hre.below hb
 replace hrw := hrw.below hb
 replace hA := hA.below hb
 replace hS := hS.below hb
 replace hW := hW.below hb
 replace hE := hE.below hb
 replace e1 := e1.below hb
 replace e3 := e3.below hb
 replace g1 := g1.below hb
 replace g3' := g3'.below hb
 replace hB := hB.trans (hb.mono hB.size)
 clear hb
 clear hxB
 generalize w8.alloc (.cells #[.string q2.a.name, .slice u1 q2.a.kids.length u2, .string q2.b.name, .slice u3 q2.b.kids.length u4] 36) = w9 at *
 obtain ⟨oB, hoB⟩ : ∃ F, F = w9.heap.size := ⟨_, rfl⟩
 have hO := Box.new w9 [.int .i64 r, .int .i64 m, .string t.name, .slice a3 t.kids.length c3, .slice a4 ks.length c4] 32
 rw [← hoB] at hO
 have i0 := hA.2.1 0 _ rfl; have i1 := hA.2.1 1 _ rfl; have i2 := hA.2.1 2 _ rfl; have i3 := hA.2.1 3 _ rfl; have i4 := hA.2.1 4 _ rfl
 go_upto_region 11 with fail
 try rw [← hoB]
 have hba := zb w9 (.cells #[.int .i64 r, .int .i64 m, .string t.name, .slice a3 t.kids.length c3, .slice a4 ks.length c4] 32)
 have hA1 := hA.below hba
 have hob := Nat.le_of_eq hoB.symm
 clear hoB i0 i1 i2 i3 i4
 generalize w9.alloc (.cells #[.int .i64 r, .int .i64 m, .string t.name, .slice a3 t.kids.length c3, .slice a4 ks.length c4] 32) = X1 at *
 have i1 := hA1.2.1 1 _ rfl; have o1 := hO.2.1 1 _ rfl; have z1 := hO.2.2 1
 go_upto_region 12 with fail
 obtain ⟨_, _, _, _, _, _, -, -, -, im, -, -, -⟩ := Wy.open hra
 obtain ⟨mo, hmo⟩ : ∃ z, z = wrap64 (m + 1) := ⟨_, rfl⟩
 obtain ⟨imo, hne⟩ : I64 mo ∧ mo ≠ m := by rw [hmo]; exact once_num im
 rw [← hmo]
 have hO2 := hO.put (k := 1) (by simp) (.int .i64 mo)
 simp only [zek, zel] at hO2
 have hb : Below w9.heap.size w9 (X1.setCell ⟨oB, 1, none⟩ (.int .i64 mo)) := zr (b := oB) hob [(1, .int .i64 mo)] hba
 replace hra := hra.below hb
 replace hrs := hrs.below hb
 replace hre := hre.below hb
 replace hrw := hrw.below hb
 replace hA := hA.below hb
 replace hS := hS.below hb
 replace hW := hW.below hb
 replace hE := hE.below hb
 replace e1 := e1.below hb
 replace e3 := e3.below hb
 replace hX := hX.below hb
 replace g1 := g1.below hb
 replace g3' := g3'.below hb
 replace hB := hB.trans (hb.mono hB.size)
 clear hb
 have HNE : Hid (eqV (Wy.mk r m t ks).cd (Wy.mk r mo t ks).cd = false) := Lib.hid (once_ne hne)
 clear hmo hne im hA1 hba hob i1 o1 z1 hO
 generalize X1.setCell ⟨oB, 1, none⟩ (.int .i64 mo) = X2 at *
 have hro := once_rd hra imo
 have i0 := hA.2.1 0 _ rfl; have i1 := hA.2.1 1 _ rfl; have i2 := hA.2.1 2 _ rfl; have i3 := hA.2.1 3 _ rfl; have i4 := hA.2.1 4 _ rfl; have j0 := hO2.2.1 0 _ rfl; have j1 := hO2.2.1 1 _ rfl; have j2 := hO2.2.1 2 _ rfl; have j3 := hO2.2.1 3 _ rfl; have j4 := hO2.2.1 4 _ rfl
 go_wp2_with fail
 refine (za3 (.mk r m t ks) (.mk r mo t ks) _ _ _ _ _ (by exact hra) (by exact hro)).mono ?_
 rintro e X3 ⟨rfl, hb⟩
 rw [HNE.out]
 clear i0 i1 i2 i3 i4 j0 j1 j2 j3 j4 hro hO2
 replace hE := hE.below hb
 replace hX := hX.below hb
 replace e1 := e1.below hb
 replace e3 := e3.below hb
 replace g1 := g1.below hb
 replace g3' := g3'.below hb
 replace hB := hB.trans (hb.mono hB.size)
 clear hb
 cases ok
 ·go_wp2_with fail
  go_ret
  exact ⟨rfl, hB⟩
 cases ok2
 ·go_wp2_with fail
  go_ret
  exact ⟨rfl, hB⟩
 obtain rfl : q2 = q := by
  have h1 := HK.out; have h2 := HK2.out; have h5 := HQ.out; have h6 := HQ2.out
  cases o with
  | none => cases h1
  | some a =>
   cases o2 with
   | none => cases h2
   | some b =>
    simp only [Option.getD_some] at h5 h6
    subst h5; subst h6
    exact zei HO.out HO2.out
 clear HO HQ HK HO2 HQ2 HK2
 have b0 := hE.2.1 0 _ rfl; have b1 := hE.2.1 1 _ rfl; have b2 := hE.2.1 2 _ rfl; have b3 := hE.2.1 3 _ rfl; have l0 := hX.2.1 0 _ rfl; have l1 := hX.2.1 1 _ rfl; have l2 := hX.2.1 2 _ rfl; have l3 := hX.2.1 3 _ rfl
 go_wp2_with fail
 refine (zc9 q2.a q2.a _ _ _ _ _ (by exact Tm.close g0 g1) (by exact Tm.close e0 e1)).mono ?_
 rintro e X4 ⟨rfl, hb⟩
 clear b0 b1 b2 b3 l0 l1 l2 l3
 replace hE := hE.below hb
 replace hX := hX.below hb
 replace e1 := e1.below hb
 replace e3 := e3.below hb
 replace g1 := g1.below hb
 replace g3' := g3'.below hb
 replace hB := hB.trans (hb.mono hB.size)
 clear hb
 have b0 := hE.2.1 0 _ rfl; have b1 := hE.2.1 1 _ rfl; have b2 := hE.2.1 2 _ rfl; have b3 := hE.2.1 3 _ rfl; have l0 := hX.2.1 0 _ rfl; have l1 := hX.2.1 1 _ rfl; have l2 := hX.2.1 2 _ rfl; have l3 := hX.2.1 3 _ rfl
 go_wp2_with fail
 refine (zc9 q2.b q2.b _ _ _ _ _ (by exact Tm.close g2 g3') (by exact Tm.close e2 e3)).mono ?_
 rintro e X5 ⟨rfl, hb⟩
 clear b0 b1 b2 b3 l0 l1 l2 l3
 replace hE := hE.below hb
 replace hX := hX.below hb
 replace e1 := e1.below hb
 replace e3 := e3.below hb
 replace g1 := g1.below hb
 replace g3' := g3'.below hb
 replace hB := hB.trans (hb.mono hB.size)
 clear hb
 go_wp2_with fail
 go_ret
 exact ⟨rfl, hB⟩
end Go.Proofs.YtlefdhhnlbpbkaaGreat
end
