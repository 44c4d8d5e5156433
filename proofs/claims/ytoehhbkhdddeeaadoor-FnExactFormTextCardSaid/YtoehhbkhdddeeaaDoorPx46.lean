/- Parts of the proof: FormZ2. -/
import Derived.Test.YtoehhbkhdddeeaaDoorPx36
import Derived.Test.YtoehhbkhdddeeaaDoorPx45
section
namespace Go.Proofs.YtoehhbkhdddeeaaDoor
open Go Go.RowKit
set_option linter.unusedVariables false
set_option linter.unusedSimpArgs false
set_option maxRecDepth 100000
set_option maxHeartbeats 16000000
theorem Fm.sgn_row {k : Int} (h : k = 2 ∨ k = 3 ∨ k = 4 ∨ k = 5 ∨ k = 6) (W : World) : (W.alloc (.cells #[.string ⟨#[33]⟩, .string ⟨#[38]⟩, .string ⟨#[124]⟩, .string ⟨#[62]⟩, .string ⟨#[126]⟩] 9)).cell? ⟨W.heap.size, (k - 2).toNat, none⟩ = some (.string ⟨#[Fm.sgn k]⟩) := by
 rw [zu]
 rcases h with rfl | rfl | rfl | rfl | rfl <;> rfl
theorem zcc (n : Nat) : ∀ (f : Fm) (d : Nat) (vs : List Value) (ff : List Nat) (w : World), ndV f.cd ≤ n → wtV f.cd ≤ 1048576 → Fm.shape d f = true → Fm.many d f ≤ 10 → RdVs w f.cd vs ff →
  Calls Tryd.prog 51 #[.agg vs.toArray] w fun e w' => e = .returned (.string f.text) ∧ Below w.heap.size w w' := by
 induction n with
 | zero =>
  intro f d vs ff w hn; have h : 0 < ndV f.cd := by rw [Fm.cd_eq]; simp [ndV, ndC]; try omega
  omega
 | succ n ih =>
 intro f d vs ff w hn hbig hsh hmn hv
 have HN : Hid (∀ k ∈ f.kids, ndV k.cd ≤ n) := fun k hk => by have := Fm.kid_nd hk; omega
 have IH := Lib.hid ih
 clear ih
 obtain ⟨a3, c3, f3, a5, c5, f5, a6, c6, f6, a7, c7, f7, a11, c11, f11, rfl, -, m0, m1, m2, m3, m4, m5, m6, m7, m8, m9⟩ := Fm.open hv
 clear hv
 have hli := Lt.close (x := f.lit) m1 m2 m3 m4 m5 m6 m7 m8
 have hw := Nat.le_of_eq (Fm.wt_eq f).symm
 have hb0 := za w (.cells #[.int .i64 f.kind, .int .i64 f.lit.atom.kind, .string f.lit.atom.a.name, .slice a3 f.lit.atom.a.kids.length c3, .string f.lit.atom.b.name, .slice a5 f.lit.atom.b.kids.length c5, .slice a6 f.lit.atom.nums.length c6, .slice a7 f.lit.atom.times.length c7, .int .i64 f.lit.atom.bound, .bool f.lit.atom.strict, .bool f.lit.no, .slice a11 f.kids.length c11] 60)
 by_cases k1 : f.kind = 1
 ·have t1 : (f.kind == 1) = true := by simp [k1]
  have hok := Fm.shape_lit hsh k1
  have hsm := Lt.small_of (x := f.lit) (by omega)
  have HT := Lib.hid (Fm.text_lit f k1)
  have h9 := zbo f.lit hok _ _ _ hsm (by exact hli.below hb0)
  have hz := Lt.text_size (Atm.text_ok hok)
  have z1 : (⟨#[123]⟩ : ByteArray).size = 1 := rfl
  have z2 : (⟨#[125]⟩ : ByteArray).size = 1 := rfl
  generalize f.lit.text = tx at *
  obtain ⟨y1, hy1⟩ : ∃ y, (⟨#[123]⟩ : ByteArray) ++ tx = y := ⟨_, rfl⟩
  have hs1 : y1.size ≤ 405 := by rw [← hy1, ByteArray.size_append]; omega
  have ha1 := zh Tryd.prog ⟨#[123]⟩ tx (by omega)
  have hno1 : ¬ ((⟨#[123]⟩ : ByteArray).size + tx.size > 9223372036854775807) := by omega
  have ha2 := zh Tryd.prog y1 ⟨#[125]⟩ (by omega)
  have hno2 : ¬ (y1.size + (⟨#[125]⟩ : ByteArray).size > 9223372036854775807) := by omega
  have HT2 : Hid (y1 ++ ⟨#[125]⟩ = f.text) := Lib.hid (by rw [← hy1]; exact HT.out)
  rw [hy1] at ha1
  rw [HT2.out] at ha2
  clear hy1 HT k1 hok hsh
  go_enter Tryd.func51, Tryd.ntmps51
  go_wp2_with fail
  refine h9.mono ?_
  rintro e w1 ⟨rfl, hb1⟩
  go_wp2_with fail
  go_ret
  exact ⟨rfl, hb0.trans (hb1.mono hb0.size)⟩
 ·have t1 : (f.kind == 1) = false := by simp [k1]
  obtain ⟨hks, hd1, hl0, hl2, hk5⟩ := Fm.shape_kind hsh k1
  have HS : Hid (∀ k ∈ f.kids, Fm.shape (d - 1) k = true) := fun k hk => Fm.shapes_mem hks hk
  have HM : Hid (∀ k ∈ f.kids, Fm.many (d - 1) k ≤ 10) := fun k hk => by
   have h1 := Fm.manys_mem (d := d - 1) hk
   rw [Fm.many_eq, if_pos (by omega)] at hmn
   omega
  have HZ : Hid (∀ k ∈ f.kids, k.text.size ≤ 5000) := fun k hk => by
   have h1 := Fm.bs_len k (d - 1) (Fm.shapes_mem hks hk)
   have h2 := HM.out k hk
   rw [Fm.text_len]; omega
  have HUS : Hid (∀ k, (f.upto k).size ≤ 5000) := Lib.hid (fun k => Nat.le_trans (Fm.upto_size f k d k1 hsh) (by omega))
  have HU0 := Lib.hid (Fm.upto_zero f)
  have HU1 := Lib.hid (Fm.upto_succ f)
  have HUA := Lib.hid (Fm.upto_all f k1)
  have hrow := Fm.sgn_row hk5 (w.alloc (.cells #[.int .i64 f.kind, .int .i64 f.lit.atom.kind, .string f.lit.atom.a.name, .slice a3 f.lit.atom.a.kids.length c3, .string f.lit.atom.b.name, .slice a5 f.lit.atom.b.kids.length c5, .slice a6 f.lit.atom.nums.length c6, .slice a7 f.lit.atom.times.length c7, .int .i64 f.lit.atom.bound, .bool f.lit.atom.strict, .bool f.lit.no, .slice a11 f.kids.length c11] 60))
  rw [World.size_alloc] at hrow
  have hk2 : 2 ≤ f.kind := by omega
  have hk6 : f.kind ≤ 6 := by omega
  have HSG : Hid ((⟨#[Fm.sgn f.kind]⟩ : ByteArray).size = 1) := Lib.hid rfl
  generalize (⟨#[Fm.sgn f.kind]⟩ : ByteArray) = sg at *
  have hsg := HSG.out
  have z40 : (⟨#[40]⟩ : ByteArray).size = 1 := rfl
  have z44 : (⟨#[44]⟩ : ByteArray).size = 1 := rfl
  have z41 : (⟨#[41]⟩ : ByteArray).size = 1 := rfl
  have ha1 := zh Tryd.prog sg ⟨#[40]⟩ (by omega)
  rw [← HU0.out] at ha1
  have hno1 : ¬ (sg.size + (⟨#[40]⟩ : ByteArray).size > 9223372036854775807) := by omega
  clear k1 hsh hmn hks hk5 HSG
  go_enter Tryd.func51, Tryd.ntmps51
  go_wp2_with fail
  clear ha1 hno1 hrow
  go_loopw [4, 5] (fun ov i wr => ∃ k : Nat, k ≤ f.kids.length ∧ i = .int .i64 k ∧ ov = .string (f.upto k) ∧ Below (w.heap.size + 1) (w.alloc (.cells #[.int .i64 f.kind, .int .i64 f.lit.atom.kind, .string f.lit.atom.a.name, .slice a3 f.lit.atom.a.kids.length c3, .string f.lit.atom.b.name, .slice a5 f.lit.atom.b.kids.length c5, .slice a6 f.lit.atom.nums.length c6, .slice a7 f.lit.atom.times.length c7, .int .i64 f.lit.atom.bound, .bool f.lit.atom.strict, .bool f.lit.no, .slice a11 f.kids.length c11] 60)) wr) (fun _ i _ => f.kids.length - (intOf i).toNat)
  case atStart => exact ⟨0, Nat.zero_le _, rfl, rfl, (Below.refl _ _).alloc (by simp) _⟩
  case round =>
   obtain ⟨k, hkl, rfl, rfl, hbx⟩ := hrel
   obtain ⟨hx, hz, hB⟩ := box1 (w := w) (wr := wr) (cs := #[.int .i64 f.kind, .int .i64 f.lit.atom.kind, .string f.lit.atom.a.name, .slice a3 f.lit.atom.a.kids.length c3, .string f.lit.atom.b.name, .slice a5 f.lit.atom.b.kids.length c5, .slice a6 f.lit.atom.nums.length c6, .slice a7 f.lit.atom.times.length c7, .int .i64 f.lit.atom.bound, .bool f.lit.atom.strict, .bool f.lit.no, .slice a11 f.kids.length c11]) (T := 60) hbx
   have C11 := hx 11
   simp only [zci, zcg, zch] at C11
   have hus := HUS.out k
   by_cases hlt : k < f.kids.length
   ·obtain ⟨b, off, rfl, hbs, _⟩ := zk m9 (by omega)
    obtain ⟨b3, e3, g3, b5, e5, g5, b6, e6, g6, b7, e7, g7, b11, e11, g11, d0, d1, d2, d3, d4, d5, d6, d7, d8, d9, d10, d11, n0, n1, n2, n3, n4, n5, n6, n7, n8, n9, _⟩ := Fm.at (m9.below hB) hlt
    have hbz : b < wr.heap.size := by omega
    have hle := zj Fm.cd f.kids (k + 1)
    rw [zm Fm.cd f.kids k hlt] at hle
    have hcl := Fm.close n0 n1 n2 n3 n4 n5 n6 n7 n8 n9
    have htx := HZ.out _ (zcm hlt)
    have HC := Lib.hid (IH.out f.kids[k] (d - 1) _ _ _ (HN.out _ (zcm hlt)) (by omega) (HS.out _ (zcm hlt)) (HM.out _ (zcm hlt)) hcl)
    have HE := Lib.hid (HU1.out k hlt)
    generalize f.kids[k].text = tx at *
    by_cases hk0 : k = 0
    ·have HE2 : Hid (f.upto (k + 1) = f.upto k ++ tx) := Lib.hid (by rw [HE.out, if_pos hk0])
     have ha2 := zh Tryd.prog (f.upto k) tx (by omega)
     have hno2 : ¬ ((f.upto k).size + tx.size > 9223372036854775807) := by omega
     rw [← HE2.out] at ha2
     have tk : decide (0 < k) = false := by simp [hk0]
     have tk2 : ¬ (0 < k) := by omega
     clear HE hk0
     go_wp2_with fail
     refine HC.out.mono ?_
     rintro e w2 ⟨rfl, hb2⟩
     go_wp2_with fail
     go_roundw
     case rel => exact ⟨k + 1, by omega, by go_num, rfl, hbx.trans (hb2.mono hz)⟩
     case measure => simp [intOf]; omega
    ·obtain ⟨y1, hy1⟩ : ∃ y, f.upto k ++ (⟨#[44]⟩ : ByteArray) = y := ⟨_, rfl⟩
     have hs1 : y1.size ≤ 5001 := by rw [← hy1, ByteArray.size_append]; omega
     have ha1 := zh Tryd.prog (f.upto k) ⟨#[44]⟩ (by omega)
     rw [hy1] at ha1
     have hno1 : ¬ ((f.upto k).size + (⟨#[44]⟩ : ByteArray).size > 9223372036854775807) := by omega
     have HE2 : Hid (f.upto (k + 1) = y1 ++ tx) := Lib.hid (by rw [HE.out, if_neg hk0, hy1])
     have ha2 := zh Tryd.prog y1 tx (by omega)
     have hno2 : ¬ (y1.size + tx.size > 9223372036854775807) := by omega
     rw [← HE2.out] at ha2
     have tk : decide (0 < k) = true := by simp; omega
     have tk2 : 0 < k := by omega
     clear HE hy1 hk0
     go_wp2_with fail
     refine HC.out.mono ?_
     rintro e w2 ⟨rfl, hb2⟩
     go_wp2_with fail
     go_roundw
     case rel => exact ⟨k + 1, by omega, by go_num, rfl, hbx.trans (hb2.mono hz)⟩
     case measure => simp [intOf]; omega
   ·have hke : k = f.kids.length := by omega
    subst hke
    have ha1 := zh Tryd.prog (f.upto f.kids.length) ⟨#[41]⟩ (by omega)
    have hno1 : ¬ ((f.upto f.kids.length).size + (⟨#[41]⟩ : ByteArray).size > 9223372036854775807) := by omega
    rw [HUA.out] at ha1
    go_wp2_with fail
    go_ret
    exact ⟨rfl, hB⟩
theorem zbd (f : Fm) (vs : List Value) (ff : List Nat) (w : World) (hbig : wtV f.cd ≤ 1048576) (hv : RdVs w f.cd vs ff) :
  Calls Tryd.prog 19 #[.agg vs.toArray] w fun e w' => e = .returned (.string (if f.okF = true then f.text else ⟨#[]⟩)) ∧ Below w.heap.size w w' := by
 have hv0 := hv
 obtain ⟨a3, c3, f3, a5, c5, f5, a6, c6, f6, a7, c7, f7, a11, c11, f11, rfl, -, m0, m1, m2, m3, m4, m5, m6, m7, m8, m9⟩ := Fm.open hv
 clear hv
 obtain ⟨r, hr⟩ : ∃ r, (if f.okF = true then f.text else ⟨#[]⟩) = r := ⟨_, rfl⟩
 rw [hr]
 have HR := Lib.hid hr
 clear hr
 go_enter Tryd.func19, Tryd.ntmps19
 go_wp2_with fail
 refine (zbJ f _ _ _ hbig (by exact hv0.below (za _ _))).mono ?_
 rintro e w1 ⟨rfl, hb1⟩
 obtain ⟨hx, hz1, hB⟩ := box1 (w := w) (wr := w1) (cs := #[.int .i64 f.kind, .int .i64 f.lit.atom.kind, .string f.lit.atom.a.name, .slice a3 f.lit.atom.a.kids.length c3, .string f.lit.atom.b.name, .slice a5 f.lit.atom.b.kids.length c5, .slice a6 f.lit.atom.nums.length c6, .slice a7 f.lit.atom.times.length c7, .int .i64 f.lit.atom.bound, .bool f.lit.atom.strict, .bool f.lit.no, .slice a11 f.kids.length c11]) (T := 60) (zg hb1 (by simp))
 have C0 := hx 0
 have C1 := hx 1
 have C2 := hx 2
 have C3 := hx 3
 have C4 := hx 4
 have C5 := hx 5
 have C6 := hx 6
 have C7 := hx 7
 have C8 := hx 8
 have C9 := hx 9
 have C10 := hx 10
 have C11 := hx 11
 simp only [zci, zcg, zch] at C0 C1 C2 C3 C4 C5 C6 C7 C8 C9 C10 C11
 clear hb1 hx
 cases hok : f.okF
 ·have HR2 : Hid (r = ⟨#[]⟩) := Lib.hid (by rw [← HR.out, if_neg (by rw [hok]; decide)])
  go_wp2_with fail
  go_ret
  exact ⟨by rw [HR2.out]; rfl, hB⟩
 ·have HOK := Lib.hid (Fm.okF_shape hok)
  have HR2 : Hid (r = f.text) := Lib.hid (by rw [← HR.out, if_pos hok])
  clear hok
  go_wp2_with fail
  refine (zcc _ f 5 _ _ _ (Nat.le_refl _) hbig HOK.out.1 HOK.out.2 (by exact hv0.below hB)).mono ?_
  rintro e w2 ⟨rfl, hb2⟩
  go_wp2_with fail
  go_ret
  exact ⟨by rw [HR2.out]; rfl, hB.trans (hb2.mono hB.size)⟩
end Go.Proofs.YtoehhbkhdddeeaaDoor
end
