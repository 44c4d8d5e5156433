/- Parts of the proof: ExSz. -/
import Derived.Test.YtoehhbkhdddeeaaDoorPx11
section
namespace Go.Proofs.YtoehhbkhdddeeaaDoor
open Go Go.RowKit
set_option linter.unusedVariables false
set_option linter.unusedSimpArgs false
set_option maxRecDepth 100000
set_option maxHeartbeats 16000000
theorem szIntS_x (xs : List Int) (v : Value) (fp : List Nat) (left : Int) (w : World) (h0 : 0 ≤ left) (h1 : left ≤ 1048576) (hv : Rd w (.sl (xs.map zn)) v fp) :
  Calls Tryd.prog 103 #[v, .int .i64 left] w (zas left (xs.length + wtR (xs.map zn)) w) := by
 obtain ⟨a, c, rfl, hc1, hc2⟩ := ze hv
 have HW := Lib.hid (wtR_ints xs)
 by_cases hf : (xs.length : Int) ≤ left
 all_goals
  go_enter Tryd.func103, Tryd.ntmps103
  go_wp2_with fail
  go_ret
  unfold zas SzRes
  rw [HW.out]
 ·exact ⟨⟨_, rfl, .inl ⟨by omega, by omega⟩⟩, Below.refl _ _⟩
 ·exact ⟨⟨_, rfl, .inr ⟨by omega, rfl⟩⟩, Below.refl _ _⟩
theorem zbs (n : Nat) (ih : ∀ (x : Tm) (vs : List Value) (fp : List Nat) (left : Int) (w : World), ndV x.cd ≤ n → 0 ≤ left → left ≤ 1048576 → RdVs w x.cd vs fp → Calls Tryd.prog 101 #[.agg vs.toArray, .int .i64 left] w (zas left (wtV x.cd) w)) (xs : List Tm) (v : Value) (fp : List Nat) (left : Int) (w : World) (hn : ∀ x ∈ xs, ndV (Tm.cd x) ≤ n) (h0 : 0 ≤ left) (h1 : left ≤ 1048576) (hv : Rd w (.sl (xs.map Tm.cd)) v fp) :
  Calls Tryd.prog 102 #[v, .int .i64 left] w (zas left (xs.length + wtR (xs.map Tm.cd)) w) := by
 obtain ⟨a, c, rfl, hc1, hc2⟩ := ze hv
 have IH := Lib.hid ih
 have HN := Lib.hid hn
 clear ih hn
 by_cases hf : (xs.length : Int) ≤ left
 ·go_enter Tryd.func102, Tryd.ntmps102
  go_wp2_with fail
  go_loopw [1, 5] (fun l i wr => ∃ k : Nat, k ≤ xs.length ∧ i = .int .i64 k ∧ l = .int .i64 (left - xs.length - wtR ((xs.map Tm.cd).take k)) ∧ 0 ≤ left - xs.length - wtR ((xs.map Tm.cd).take k) ∧ Below w.heap.size w wr) (fun _ i _ => xs.length - (intOf i).toNat)
  case atStart => exact ⟨0, Nat.zero_le _, rfl, by simp [wtR], by simp [wtR]; omega, Below.refl _ _⟩
  case round =>
   obtain ⟨k, hkl, rfl, rfl, hpos, hb⟩ := hrel
   have hz := hb.size
   by_cases hlt : k < xs.length
   ·obtain ⟨b, off, rfl, hbs, _⟩ := zk hv (by omega)
    obtain ⟨a1, c1, f1, d0, d1, m0, m1, _⟩ := Tm.at (hv.below hb) hlt
    have hbz : b < wr.heap.size := by omega
    have HS := Lib.hid (zm Tm.cd xs k hlt)
    have hle := zj Tm.cd xs (k + 1)
    rw [HS.out] at hle
    
    go_wp2_with fail
    refine (IH.out xs[k] _ _ _ _ (HN.out _ (zcm hlt)) (by omega) (by omega) (Tm.close m0 m1)).mono ?_
    rintro e w2 ⟨⟨r, rfl, ⟨hr, rfl⟩ | ⟨hr, rfl⟩⟩, hb2⟩
    ·go_wp2_with fail
     go_roundw
     case rel => exact ⟨k + 1, by omega, by go_num, by rw [HS.out]; go_num, by rw [HS.out]; omega, hb.trans (hb2.mono hz)⟩
     case measure => simp [intOf]; omega
    ·go_wp2_with fail
     go_ret
     exact ⟨⟨_, rfl, .inr ⟨by omega, rfl⟩⟩, hb.trans (hb2.mono hz)⟩
   ·have he : (xs.map Tm.cd).take k = xs.map Tm.cd := List.take_of_length_le (by simp; omega)
    rw [he] at hpos ⊢
    go_wp2_with fail
    go_ret
    exact ⟨⟨_, rfl, .inl ⟨by omega, by omega⟩⟩, hb⟩
 ·go_enter Tryd.func102, Tryd.ntmps102
  go_wp2_with fail
  go_ret
  exact ⟨⟨_, rfl, .inr ⟨by omega, rfl⟩⟩, Below.refl _ _⟩
theorem zbU (n : Nat) : ∀ (x : Tm) (vs : List Value) (fp : List Nat) (left : Int) (w : World), ndV x.cd ≤ n → 0 ≤ left → left ≤ 1048576 → RdVs w x.cd vs fp → Calls Tryd.prog 101 #[.agg vs.toArray, .int .i64 left] w (zas left (wtV x.cd) w) := by
 induction n with
 | zero => intro x vs fp left w hn; have h : 0 < ndV x.cd := (by rw [Tm.cd_eq]; simp [ndV, ndC]; try omega); omega
 | succ n ih =>
  intro x vs fp left w hn h0 h1 hv
  have HK : Hid (∀ k ∈ x.kids, ndV k.cd ≤ n) := fun k hk => by have := Tm.kid_nd hk; omega
  have IH := Lib.hid ih
  clear ih
  obtain ⟨a1, c1, f1, rfl, _, m0, m1⟩ := Tm.open hv
  have hw : wtV x.cd = x.name.size + (x.kids.length + wtR (x.kids.map Tm.cd)) := by rw [Tm.cd_app]; simp only [zq, zO, zG, zac, zad]; try omega
  have HW := Lib.hid hw
  clear hw
  have hs : x.name.size ≤ 9223372036854775807 := by simpa [maxLen] using m0
  by_cases hf : (x.name.size : Int) ≤ left
  ·skip
   go_enter Tryd.func101, Tryd.ntmps101
   go_wp2_with fail
   refine (zbs n IH.out x.kids _ _ _ _ HK.out (by omega) (by omega) (m1.below (za _ _))).mono ?_
   rintro e w1 ⟨⟨r1, rfl, hr1⟩, hb1⟩
   obtain ⟨hx1, hz1, hB1⟩ := box1 (w := w) (wr := w1) (cs := #[.string x.name, .slice a1 x.kids.length c1]) (T := 48) (zg hb1 (by simp))
   rcases hr1 with ⟨hr1, rfl⟩ | ⟨hr1, rfl⟩
   rotate_left
   ·go_wp2_with fail
    go_ret
    exact ⟨⟨_, rfl, .inr ⟨by have := HW.out; omega, rfl⟩⟩, hB1⟩
   go_wp2_with fail
   go_ret
   exact ⟨⟨_, rfl, .inl ⟨by have := HW.out; omega, by have := HW.out; omega⟩⟩, hB1⟩
  ·skip
   go_enter Tryd.func101, Tryd.ntmps101
   go_wp2_with fail
   go_ret
   exact ⟨⟨_, rfl, .inr ⟨by have := HW.out; omega, rfl⟩⟩, za _ _⟩
theorem szTermS_x (xs : List Tm) (v : Value) (fp : List Nat) (left : Int) (w : World) (h0 : 0 ≤ left) (h1 : left ≤ 1048576) (hv : Rd w (.sl (xs.map Tm.cd)) v fp) :
  Calls Tryd.prog 102 #[v, .int .i64 left] w (zas left (xs.length + wtR (xs.map Tm.cd)) w) :=
 zbs (ndR (xs.map Tm.cd)) (zbU _) xs v fp left w (fun x hx => Nat.le_of_lt (zar (List.mem_map_of_mem hx))) h0 h1 hv
theorem zbV (x : Tm) (vs : List Value) (fp : List Nat) (left : Int) (w : World) (h0 : 0 ≤ left) (h1 : left ≤ 1048576) (hv : RdVs w x.cd vs fp) :
  Calls Tryd.prog 101 #[.agg vs.toArray, .int .i64 left] w (zas left (wtV x.cd) w) := zbU _ x vs fp left w (Nat.le_refl _) h0 h1 hv
theorem szAtom_x (x : Atm) (vs : List Value) (fp : List Nat) (left : Int) (w : World) (h0 : 0 ≤ left) (h1 : left ≤ 1048576) (hv : RdVs w x.cd vs fp) :
  Calls Tryd.prog 80 #[.agg vs.toArray, .int .i64 left] w (zas left (wtV x.cd) w) := by
 obtain ⟨a2, c2, f2, a4, c4, f4, a5, c5, f5, a6, c6, f6, rfl, _, m0, m1, m2, m3, m4, m5, m6, m7⟩ := Atm.open hv
 have hw : wtV x.cd = wtV x.a.cd + wtV x.b.cd + (x.nums.length + wtR (x.nums.map Tm.cd)) + (x.times.length + wtR (x.times.map zn)) := by unfold Atm.cd; simp only [zq, zO, zG, zac, zad]; try omega
 have HW := Lib.hid hw
 clear hw
 go_enter Tryd.func80, Tryd.ntmps80
 go_wp2_with fail
 refine (zbV x.a _ _ _ _ (by omega) (by omega) ((Tm.close m1 m2).below (za _ _))).mono ?_
 rintro e w1 ⟨⟨r1, rfl, hr1⟩, hb1⟩
 obtain ⟨hx1, hz1, hB1⟩ := box1 (w := w) (wr := w1) (cs := #[.int .i64 x.kind, .string x.a.name, .slice a2 x.a.kids.length c2, .string x.b.name, .slice a4 x.b.kids.length c4, .slice a5 x.nums.length c5, .slice a6 x.times.length c6, .int .i64 x.bound, .bool x.strict]) (T := 50) (zg hb1 (by simp))
 rcases hr1 with ⟨hr1, rfl⟩ | ⟨hr1, rfl⟩
 rotate_left
 ·go_wp2_with fail
  go_ret
  exact ⟨⟨_, rfl, .inr ⟨by have := HW.out; omega, rfl⟩⟩, hB1⟩
 go_wp2_with fail
 refine (zbV x.b _ _ _ _ (by omega) (by omega) ((Tm.close m3 m4).below hB1)).mono ?_
 rintro e w2 ⟨⟨r2, rfl, hr2⟩, hb2⟩
 have hB2 := hB1.trans (hb2.mono (by omega))
 have hx2 := zb hx1 (by omega) hb2
 have hz2 := Nat.le_trans hz1 hb2.size
 clear hx1
 rcases hr2 with ⟨hr2, rfl⟩ | ⟨hr2, rfl⟩
 rotate_left
 ·go_wp2_with fail
  go_ret
  exact ⟨⟨_, rfl, .inr ⟨by have := HW.out; omega, rfl⟩⟩, hB2⟩
 go_wp2_with fail
 refine (szTermS_x x.nums _ _ _ _ (by omega) (by omega) (m5.below hB2)).mono ?_
 rintro e w3 ⟨⟨r3, rfl, hr3⟩, hb3⟩
 have hB3 := hB2.trans (hb3.mono (by omega))
 have hx3 := zb hx2 (by omega) hb3
 have hz3 := Nat.le_trans hz2 hb3.size
 clear hx2
 rcases hr3 with ⟨hr3, rfl⟩ | ⟨hr3, rfl⟩
 rotate_left
 ·go_wp2_with fail
  go_ret
  exact ⟨⟨_, rfl, .inr ⟨by have := HW.out; omega, rfl⟩⟩, hB3⟩
 go_wp2_with fail
 refine (szIntS_x x.times _ _ _ _ (by omega) (by omega) (m6.below hB3)).mono ?_
 rintro e w4 ⟨⟨r4, rfl, hr4⟩, hb4⟩
 have hB4 := hB3.trans (hb4.mono (by omega))
 have hx4 := zb hx3 (by omega) hb4
 have hz4 := Nat.le_trans hz3 hb4.size
 clear hx3
 rcases hr4 with ⟨hr4, rfl⟩ | ⟨hr4, rfl⟩
 rotate_left
 ·go_wp2_with fail
  go_ret
  exact ⟨⟨_, rfl, .inr ⟨by have := HW.out; omega, rfl⟩⟩, hB4⟩
 go_wp2_with fail
 go_ret
 exact ⟨⟨_, rfl, .inl ⟨by have := HW.out; omega, by have := HW.out; omega⟩⟩, hB4⟩
theorem szLit_x (x : Lt) (vs : List Value) (fp : List Nat) (left : Int) (w : World) (h0 : 0 ≤ left) (h1 : left ≤ 1048576) (hv : RdVs w x.cd vs fp) :
  Calls Tryd.prog 48 #[.agg vs.toArray, .int .i64 left] w (zas left (wtV x.cd) w) := by
 obtain ⟨a2, c2, f2, a4, c4, f4, a5, c5, f5, a6, c6, f6, rfl, _, m0, m1, m2, m3, m4, m5, m6, m7⟩ := Lt.open hv
 have hw : wtV x.cd = wtV x.atom.cd := by unfold Lt.cd; simp only [zq, zO, zG, zac, zad]; try omega
 have HW := Lib.hid hw
 clear hw
 go_enter Tryd.func48, Tryd.ntmps48
 go_wp2_with fail
 refine (szAtom_x x.atom _ _ _ _ (by omega) (by omega) ((Atm.close m0 m1 m2 m3 m4 m5 m6 m7).below (za _ _))).mono ?_
 rintro e w1 ⟨⟨r1, rfl, hr1⟩, hb1⟩
 obtain ⟨hx1, hz1, hB1⟩ := box1 (w := w) (wr := w1) (cs := #[.int .i64 x.atom.kind, .string x.atom.a.name, .slice a2 x.atom.a.kids.length c2, .string x.atom.b.name, .slice a4 x.atom.b.kids.length c4, .slice a5 x.atom.nums.length c5, .slice a6 x.atom.times.length c6, .int .i64 x.atom.bound, .bool x.atom.strict, .bool x.no]) (T := 52) (zg hb1 (by simp))
 rcases hr1 with ⟨hr1, rfl⟩ | ⟨hr1, rfl⟩
 rotate_left
 ·go_wp2_with fail
  go_ret
  exact ⟨⟨_, rfl, .inr ⟨by have := HW.out; omega, rfl⟩⟩, hB1⟩
 go_wp2_with fail
 go_ret
 exact ⟨⟨_, rfl, .inl ⟨by have := HW.out; omega, by have := HW.out; omega⟩⟩, hB1⟩
theorem szFormS_n (n : Nat) (ih : ∀ (x : Fm) (vs : List Value) (fp : List Nat) (left : Int) (w : World), ndV x.cd ≤ n → 0 ≤ left → left ≤ 1048576 → RdVs w x.cd vs fp → Calls Tryd.prog 18 #[.agg vs.toArray, .int .i64 left] w (zas left (wtV x.cd) w)) (xs : List Fm) (v : Value) (fp : List Nat) (left : Int) (w : World) (hn : ∀ x ∈ xs, ndV (Fm.cd x) ≤ n) (h0 : 0 ≤ left) (h1 : left ≤ 1048576) (hv : Rd w (.sl (xs.map Fm.cd)) v fp) :
  Calls Tryd.prog 49 #[v, .int .i64 left] w (zas left (xs.length + wtR (xs.map Fm.cd)) w) := by
 obtain ⟨a, c, rfl, hc1, hc2⟩ := ze hv
 have IH := Lib.hid ih
 have HN := Lib.hid hn
 clear ih hn
 by_cases hf : (xs.length : Int) ≤ left
 ·go_enter Tryd.func49, Tryd.ntmps49
  go_wp2_with fail
  go_loopw [1, 5] (fun l i wr => ∃ k : Nat, k ≤ xs.length ∧ i = .int .i64 k ∧ l = .int .i64 (left - xs.length - wtR ((xs.map Fm.cd).take k)) ∧ 0 ≤ left - xs.length - wtR ((xs.map Fm.cd).take k) ∧ Below w.heap.size w wr) (fun _ i _ => xs.length - (intOf i).toNat)
  case atStart => exact ⟨0, Nat.zero_le _, rfl, by simp [wtR], by simp [wtR]; omega, Below.refl _ _⟩
  case round =>
   obtain ⟨k, hkl, rfl, rfl, hpos, hb⟩ := hrel
   have hz := hb.size
   by_cases hlt : k < xs.length
   ·obtain ⟨b, off, rfl, hbs, _⟩ := zk hv (by omega)
    obtain ⟨a3, c3, f3, a5, c5, f5, a6, c6, f6, a7, c7, f7, a11, c11, f11, d0, d1, d2, d3, d4, d5, d6, d7, d8, d9, d10, d11, m0, m1, m2, m3, m4, m5, m6, m7, m8, m9, _⟩ := Fm.at (hv.below hb) hlt
    have hbz : b < wr.heap.size := by omega
    have HS := Lib.hid (zm Fm.cd xs k hlt)
    have hle := zj Fm.cd xs (k + 1)
    rw [HS.out] at hle
    
    go_wp2_with fail
    refine (IH.out xs[k] _ _ _ _ (HN.out _ (zcm hlt)) (by omega) (by omega) (Fm.close m0 m1 m2 m3 m4 m5 m6 m7 m8 m9)).mono ?_
    rintro e w2 ⟨⟨r, rfl, ⟨hr, rfl⟩ | ⟨hr, rfl⟩⟩, hb2⟩
    ·go_wp2_with fail
     go_roundw
     case rel => exact ⟨k + 1, by omega, by go_num, by rw [HS.out]; go_num, by rw [HS.out]; omega, hb.trans (hb2.mono hz)⟩
     case measure => simp [intOf]; omega
    ·go_wp2_with fail
     go_ret
     exact ⟨⟨_, rfl, .inr ⟨by omega, rfl⟩⟩, hb.trans (hb2.mono hz)⟩
   ·have he : (xs.map Fm.cd).take k = xs.map Fm.cd := List.take_of_length_le (by simp; omega)
    rw [he] at hpos ⊢
    go_wp2_with fail
    go_ret
    exact ⟨⟨_, rfl, .inl ⟨by omega, by omega⟩⟩, hb⟩
 ·go_enter Tryd.func49, Tryd.ntmps49
  go_wp2_with fail
  go_ret
  exact ⟨⟨_, rfl, .inr ⟨by omega, rfl⟩⟩, Below.refl _ _⟩
theorem szForm_n (n : Nat) : ∀ (x : Fm) (vs : List Value) (fp : List Nat) (left : Int) (w : World), ndV x.cd ≤ n → 0 ≤ left → left ≤ 1048576 → RdVs w x.cd vs fp → Calls Tryd.prog 18 #[.agg vs.toArray, .int .i64 left] w (zas left (wtV x.cd) w) := by
 induction n with
 | zero => intro x vs fp left w hn; have h : 0 < ndV x.cd := (by rw [Fm.cd_eq]; simp [ndV, ndC]; try omega); omega
 | succ n ih =>
  intro x vs fp left w hn h0 h1 hv
  have HK : Hid (∀ k ∈ x.kids, ndV k.cd ≤ n) := fun k hk => by have := Fm.kid_nd hk; omega
  have IH := Lib.hid ih
  clear ih
  obtain ⟨a3, c3, f3, a5, c5, f5, a6, c6, f6, a7, c7, f7, a11, c11, f11, rfl, _, m0, m1, m2, m3, m4, m5, m6, m7, m8, m9⟩ := Fm.open hv
  have hw : wtV x.cd = wtV x.lit.cd + (x.kids.length + wtR (x.kids.map Fm.cd)) := by rw [Fm.cd_eq]; simp only [zq, zO, zG, zac, zad]; try omega
  have HW := Lib.hid hw
  clear hw
  go_enter Tryd.func18, Tryd.ntmps18
  go_wp2_with fail
  refine (szLit_x x.lit _ _ _ _ (by omega) (by omega) ((Lt.close m1 m2 m3 m4 m5 m6 m7 m8).below (za _ _))).mono ?_
  rintro e w1 ⟨⟨r1, rfl, hr1⟩, hb1⟩
  obtain ⟨hx1, hz1, hB1⟩ := box1 (w := w) (wr := w1) (cs := #[.int .i64 x.kind, .int .i64 x.lit.atom.kind, .string x.lit.atom.a.name, .slice a3 x.lit.atom.a.kids.length c3, .string x.lit.atom.b.name, .slice a5 x.lit.atom.b.kids.length c5, .slice a6 x.lit.atom.nums.length c6, .slice a7 x.lit.atom.times.length c7, .int .i64 x.lit.atom.bound, .bool x.lit.atom.strict, .bool x.lit.no, .slice a11 x.kids.length c11]) (T := 55) (zg hb1 (by simp))
  rcases hr1 with ⟨hr1, rfl⟩ | ⟨hr1, rfl⟩
  rotate_left
  ·go_wp2_with fail
   go_ret
   exact ⟨⟨_, rfl, .inr ⟨by have := HW.out; omega, rfl⟩⟩, hB1⟩
  go_wp2_with fail
  refine (szFormS_n n IH.out x.kids _ _ _ _ HK.out (by omega) (by omega) (m9.below hB1)).mono ?_
  rintro e w2 ⟨⟨r2, rfl, hr2⟩, hb2⟩
  have hB2 := hB1.trans (hb2.mono (by omega))
  have hx2 := zb hx1 (by omega) hb2
  have hz2 := Nat.le_trans hz1 hb2.size
  clear hx1
  rcases hr2 with ⟨hr2, rfl⟩ | ⟨hr2, rfl⟩
  rotate_left
  ·go_wp2_with fail
   go_ret
   exact ⟨⟨_, rfl, .inr ⟨by have := HW.out; omega, rfl⟩⟩, hB2⟩
  go_wp2_with fail
  go_ret
  exact ⟨⟨_, rfl, .inl ⟨by have := HW.out; omega, by have := HW.out; omega⟩⟩, hB2⟩
theorem szForm_x (x : Fm) (vs : List Value) (fp : List Nat) (left : Int) (w : World) (h0 : 0 ≤ left) (h1 : left ≤ 1048576) (hv : RdVs w x.cd vs fp) :
  Calls Tryd.prog 18 #[.agg vs.toArray, .int .i64 left] w (zas left (wtV x.cd) w) := szForm_n _ x vs fp left w (Nat.le_refl _) h0 h1 hv
end Go.Proofs.YtoehhbkhdddeeaaDoor
end
