/- Parts of the proof: ExSz. -/
import Derived.Test.YtcfpnjcamcpieaaPw10
section
namespace Go.Proofs.Ytcfpnjcamcpieaa
open Go Go.RowKit
set_option linter.unusedVariables false
set_option linter.unusedSimpArgs false
set_option maxRecDepth 100000
set_option maxHeartbeats 16000000
theorem szIntS_x (xs : List Int) (v : Value) (fp : List Nat) (left : Int) (w : World) (h0 : 0 ≤ left) (h1 : left ≤ 1048576) (hv : Rd w (.sl (xs.map zt)) v fp) :
  Calls Try.prog 67 #[v, .int .i64 left] w (zaM left (xs.length + wtR (xs.map zt)) w) := by
 obtain ⟨a, c, rfl, hc1, hc2⟩ := ze hv
 have HW := Lib.hid (wtR_ints xs)
 by_cases hf : (xs.length : Int) ≤ left
 all_goals
  go_enter Try.func67, Try.ntmps67
  go_wp2_with fail
  go_ret
  unfold zaM SzRes
  rw [HW.out]
 ·exact ⟨⟨_, rfl, .inl ⟨by omega, by omega⟩⟩, Below.refl _ _⟩
 ·exact ⟨⟨_, rfl, .inr ⟨by omega, rfl⟩⟩, Below.refl _ _⟩
theorem szTermS_n (n : Nat) (ih : ∀ (x : Tm) (vs : List Value) (fp : List Nat) (left : Int) (w : World), ndV x.cd ≤ n → 0 ≤ left → left ≤ 1048576 → RdVs w x.cd vs fp → Calls Try.prog 23 #[.agg vs.toArray, .int .i64 left] w (zaM left (wtV x.cd) w)) (xs : List Tm) (v : Value) (fp : List Nat) (left : Int) (w : World) (hn : ∀ x ∈ xs, ndV (Tm.cd x) ≤ n) (h0 : 0 ≤ left) (h1 : left ≤ 1048576) (hv : Rd w (.sl (xs.map Tm.cd)) v fp) :
  Calls Try.prog 45 #[v, .int .i64 left] w (zaM left (xs.length + wtR (xs.map Tm.cd)) w) := by
 obtain ⟨a, c, rfl, hc1, hc2⟩ := ze hv
 have IH := Lib.hid ih
 have HN := Lib.hid hn
 clear ih hn
 by_cases hf : (xs.length : Int) ≤ left
 ·go_enter Try.func45, Try.ntmps45
  go_wp2_with fail
  go_loopw [1, 5] (fun l i wr => ∃ k : Nat, k ≤ xs.length ∧ i = .int .i64 k ∧ l = .int .i64 (left - xs.length - wtR ((xs.map Tm.cd).take k)) ∧ 0 ≤ left - xs.length - wtR ((xs.map Tm.cd).take k) ∧ Below w.heap.size w wr) (fun _ i _ => xs.length - (intOf i).toNat)
  case atStart => exact ⟨0, Nat.zero_le _, rfl, by simp [wtR], by simp [wtR]; omega, Below.refl _ _⟩
  case round =>
   obtain ⟨k, hkl, rfl, rfl, hpos, hb⟩ := hrel
   have hz := hb.size
   by_cases hlt : k < xs.length
   ·obtain ⟨b, off, rfl, hbs, _⟩ := zk hv (by omega)
    obtain ⟨a1, c1, f1, d0, d1, m0, m1, _⟩ := Tm.at (hv.below hb) hlt
    have hbz : b < wr.heap.size := by omega
    have HS := Lib.hid (zE Tm.cd xs k hlt)
    have hle := zN Tm.cd xs (k + 1)
    rw [HS.out] at hle
    
    go_wp2_with fail
    refine (IH.out xs[k] _ _ _ _ (HN.out _ (zc7 hlt)) (by omega) (by omega) (Tm.close m0 m1)).mono ?_
    rintro e w2 ⟨⟨r, rfl, ⟨hr, rfl⟩ | ⟨hr, rfl⟩⟩, hb2⟩
    ·go_wp2_with fail
     go_roundw
     case rel => exact ⟨k + 1, by omega, by go_num, by rw [HS.out]; go_num, by rw [HS.out]; omega, hb.trans (hb2.mono hz)⟩
     case measure => simp [intOf]; omega
    ·go_wp2_with fail
     go_ret
     exact ⟨⟨_, rfl, .inr ⟨by omega, rfl⟩⟩, hb.trans (hb2.mono hz)⟩
   ·have he : (xs.map Tm.cd).take k = xs.map Tm.cd := List.take_of_length_le (by simp; omega)
    rw [he] at hpos ⊢
    go_wp2_with fail
    go_ret
    exact ⟨⟨_, rfl, .inl ⟨by omega, by omega⟩⟩, hb⟩
 ·go_enter Try.func45, Try.ntmps45
  go_wp2_with fail
  go_ret
  exact ⟨⟨_, rfl, .inr ⟨by omega, rfl⟩⟩, Below.refl _ _⟩
theorem szTerm_n (n : Nat) : ∀ (x : Tm) (vs : List Value) (fp : List Nat) (left : Int) (w : World), ndV x.cd ≤ n → 0 ≤ left → left ≤ 1048576 → RdVs w x.cd vs fp → Calls Try.prog 23 #[.agg vs.toArray, .int .i64 left] w (zaM left (wtV x.cd) w) := by
 induction n with
 | zero => intro x vs fp left w hn; have h : 0 < ndV x.cd := (by rw [Tm.cd_eq]; simp [ndV, ndC]; try omega); omega
 | succ n ih =>
  intro x vs fp left w hn h0 h1 hv
  have HK : Hid (∀ k ∈ x.kids, ndV k.cd ≤ n) := fun k hk => by have := Tm.kid_nd hk; omega
  have IH := Lib.hid ih
  clear ih
  obtain ⟨a1, c1, f1, rfl, _, m0, m1⟩ := Tm.open hv
  have hw : wtV x.cd = x.name.size + (x.kids.length + wtR (x.kids.map Tm.cd)) := by rw [Tm.cd_app]; simp only [zH, zal, zab, zao, zay]; try omega
  have HW := Lib.hid hw
  clear hw
  have hs : x.name.size ≤ 9223372036854775807 := by simpa [maxLen] using m0
  by_cases hf : (x.name.size : Int) ≤ left
  ·skip
   go_enter Try.func23, Try.ntmps23
   go_wp2_with fail
   refine (szTermS_n n IH.out x.kids _ _ _ _ HK.out (by omega) (by omega) (m1.below (zb _ _))).mono ?_
   rintro e w1 ⟨⟨r1, rfl, hr1⟩, hb1⟩
   obtain ⟨hx1, hz1, hB1⟩ := box1 (w := w) (wr := w1) (cs := #[.string x.name, .slice a1 x.kids.length c1]) (T := 28) (zm hb1 (by simp))
   rcases hr1 with ⟨hr1, rfl⟩ | ⟨hr1, rfl⟩
   rotate_left
   ·go_wp2_with fail
    go_ret
    exact ⟨⟨_, rfl, .inr ⟨by have := HW.out; omega, rfl⟩⟩, hB1⟩
   go_wp2_with fail
   go_ret
   exact ⟨⟨_, rfl, .inl ⟨by have := HW.out; omega, by have := HW.out; omega⟩⟩, hB1⟩
  ·skip
   go_enter Try.func23, Try.ntmps23
   go_wp2_with fail
   go_ret
   exact ⟨⟨_, rfl, .inr ⟨by have := HW.out; omega, rfl⟩⟩, zb _ _⟩
theorem zbZ (x : Tm) (vs : List Value) (fp : List Nat) (left : Int) (w : World) (h0 : 0 ≤ left) (h1 : left ≤ 1048576) (hv : RdVs w x.cd vs fp) :
  Calls Try.prog 23 #[.agg vs.toArray, .int .i64 left] w (zaM left (wtV x.cd) w) := szTerm_n _ x vs fp left w (Nat.le_refl _) h0 h1 hv
theorem szSym_x (x : Sy) (vs : List Value) (fp : List Nat) (left : Int) (w : World) (h0 : 0 ≤ left) (h1 : left ≤ 1048576) (hv : RdVs w x.cd vs fp) :
  Calls Try.prog 44 #[.agg vs.toArray, .int .i64 left] w (zaM left (wtV x.cd) w) := by
 obtain ⟨a1, c1, f1, rfl, _, m0, m1, m2⟩ := Sy.open hv
 have hw : wtV x.cd = x.name.size + (x.args.length + wtR (x.args.map zt)) := by unfold Sy.cd; simp only [zH, zal, zab, zao, zay]; try omega
 have HW := Lib.hid hw
 clear hw
 have hs : x.name.size ≤ 9223372036854775807 := by simpa [maxLen] using m0
 by_cases hf : (x.name.size : Int) ≤ left
 ·skip
  go_enter Try.func44, Try.ntmps44
  go_wp2_with fail
  refine (szIntS_x x.args _ _ _ _ (by omega) (by omega) (m1.below (zb _ _))).mono ?_
  rintro e w1 ⟨⟨r1, rfl, hr1⟩, hb1⟩
  obtain ⟨hx1, hz1, hB1⟩ := box1 (w := w) (wr := w1) (cs := #[.string x.name, .slice a1 x.args.length c1, .int .i64 x.sort]) (T := 87) (zm hb1 (by simp))
  rcases hr1 with ⟨hr1, rfl⟩ | ⟨hr1, rfl⟩
  rotate_left
  ·go_wp2_with fail
   go_ret
   exact ⟨⟨_, rfl, .inr ⟨by have := HW.out; omega, rfl⟩⟩, hB1⟩
  go_wp2_with fail
  go_ret
  exact ⟨⟨_, rfl, .inl ⟨by have := HW.out; omega, by have := HW.out; omega⟩⟩, hB1⟩
 ·skip
  go_enter Try.func44, Try.ntmps44
  go_wp2_with fail
  go_ret
  exact ⟨⟨_, rfl, .inr ⟨by have := HW.out; omega, rfl⟩⟩, zb _ _⟩
theorem szSymS_x (xs : List Sy) (v : Value) (fp : List Nat) (left : Int) (w : World) (h0 : 0 ≤ left) (h1 : left ≤ 1048576) (hv : Rd w (.sl (xs.map Sy.cd)) v fp) :
  Calls Try.prog 21 #[v, .int .i64 left] w (zaM left (xs.length + wtR (xs.map Sy.cd)) w) := by
 obtain ⟨a, c, rfl, hc1, hc2⟩ := ze hv
 by_cases hf : (xs.length : Int) ≤ left
 ·go_enter Try.func21, Try.ntmps21
  go_wp2_with fail
  go_loopw [1, 5] (fun l i wr => ∃ k : Nat, k ≤ xs.length ∧ i = .int .i64 k ∧ l = .int .i64 (left - xs.length - wtR ((xs.map Sy.cd).take k)) ∧ 0 ≤ left - xs.length - wtR ((xs.map Sy.cd).take k) ∧ Below w.heap.size w wr) (fun _ i _ => xs.length - (intOf i).toNat)
  case atStart => exact ⟨0, Nat.zero_le _, rfl, by simp [wtR], by simp [wtR]; omega, Below.refl _ _⟩
  case round =>
   obtain ⟨k, hkl, rfl, rfl, hpos, hb⟩ := hrel
   have hz := hb.size
   by_cases hlt : k < xs.length
   ·obtain ⟨b, off, rfl, hbs, _⟩ := zk hv (by omega)
    obtain ⟨a1, c1, f1, d0, d1, d2, m0, m1, m2, _⟩ := Sy.at (hv.below hb) hlt
    have hbz : b < wr.heap.size := by omega
    have HS := Lib.hid (zE Sy.cd xs k hlt)
    have hle := zN Sy.cd xs (k + 1)
    rw [HS.out] at hle
    
    go_wp2_with fail
    refine (szSym_x xs[k] _ _ _ _ (by omega) (by omega) (Sy.close m0 m1 m2)).mono ?_
    rintro e w2 ⟨⟨r, rfl, ⟨hr, rfl⟩ | ⟨hr, rfl⟩⟩, hb2⟩
    ·go_wp2_with fail
     go_roundw
     case rel => exact ⟨k + 1, by omega, by go_num, by rw [HS.out]; go_num, by rw [HS.out]; omega, hb.trans (hb2.mono hz)⟩
     case measure => simp [intOf]; omega
    ·go_wp2_with fail
     go_ret
     exact ⟨⟨_, rfl, .inr ⟨by omega, rfl⟩⟩, hb.trans (hb2.mono hz)⟩
   ·have he : (xs.map Sy.cd).take k = xs.map Sy.cd := List.take_of_length_le (by simp; omega)
    rw [he] at hpos ⊢
    go_wp2_with fail
    go_ret
    exact ⟨⟨_, rfl, .inl ⟨by omega, by omega⟩⟩, hb⟩
 ·go_enter Try.func21, Try.ntmps21
  go_wp2_with fail
  go_ret
  exact ⟨⟨_, rfl, .inr ⟨by omega, rfl⟩⟩, Below.refl _ _⟩
theorem szEq_x (x : Eqn) (vs : List Value) (fp : List Nat) (left : Int) (w : World) (h0 : 0 ≤ left) (h1 : left ≤ 1048576) (hv : RdVs w x.cd vs fp) :
  Calls Try.prog 22 #[.agg vs.toArray, .int .i64 left] w (zaM left (wtV x.cd) w) := by
 obtain ⟨a1, c1, f1, a3, c3, f3, rfl, _, m0, m1, m2, m3⟩ := Eqn.open hv
 have hw : wtV x.cd = wtV x.a.cd + wtV x.b.cd := by unfold Eqn.cd; simp only [zH, zal, zab, zao, zay]; try omega
 have HW := Lib.hid hw
 clear hw
 go_enter Try.func22, Try.ntmps22
 go_wp2_with fail
 refine (zbZ x.a _ _ _ _ (by omega) (by omega) ((Tm.close m0 m1).below (zb _ _))).mono ?_
 rintro e w1 ⟨⟨r1, rfl, hr1⟩, hb1⟩
 obtain ⟨hx1, hz1, hB1⟩ := box1 (w := w) (wr := w1) (cs := #[.string x.a.name, .slice a1 x.a.kids.length c1, .string x.b.name, .slice a3 x.b.kids.length c3]) (T := 64) (zm hb1 (by simp))
 rcases hr1 with ⟨hr1, rfl⟩ | ⟨hr1, rfl⟩
 rotate_left
 ·go_wp2_with fail
  go_ret
  exact ⟨⟨_, rfl, .inr ⟨by have := HW.out; omega, rfl⟩⟩, hB1⟩
 go_wp2_with fail
 refine (zbZ x.b _ _ _ _ (by omega) (by omega) ((Tm.close m2 m3).below hB1)).mono ?_
 rintro e w2 ⟨⟨r2, rfl, hr2⟩, hb2⟩
 have hB2 := hB1.trans (hb2.mono (by omega))
 have hx2 := za hx1 (by omega) hb2
 have hz2 := Nat.le_trans hz1 hb2.size
 clear hx1
 rcases hr2 with ⟨hr2, rfl⟩ | ⟨hr2, rfl⟩
 rotate_left
 ·go_wp2_with fail
  go_ret
  exact ⟨⟨_, rfl, .inr ⟨by have := HW.out; omega, rfl⟩⟩, hB2⟩
 go_wp2_with fail
 go_ret
 exact ⟨⟨_, rfl, .inl ⟨by have := HW.out; omega, by have := HW.out; omega⟩⟩, hB2⟩
theorem szEqS_x (xs : List Eqn) (v : Value) (fp : List Nat) (left : Int) (w : World) (h0 : 0 ≤ left) (h1 : left ≤ 1048576) (hv : Rd w (.sl (xs.map Eqn.cd)) v fp) :
  Calls Try.prog 5 #[v, .int .i64 left] w (zaM left (xs.length + wtR (xs.map Eqn.cd)) w) := by
 obtain ⟨a, c, rfl, hc1, hc2⟩ := ze hv
 by_cases hf : (xs.length : Int) ≤ left
 ·go_enter Try.func5, Try.ntmps5
  go_wp2_with fail
  go_loopw [1, 5] (fun l i wr => ∃ k : Nat, k ≤ xs.length ∧ i = .int .i64 k ∧ l = .int .i64 (left - xs.length - wtR ((xs.map Eqn.cd).take k)) ∧ 0 ≤ left - xs.length - wtR ((xs.map Eqn.cd).take k) ∧ Below w.heap.size w wr) (fun _ i _ => xs.length - (intOf i).toNat)
  case atStart => exact ⟨0, Nat.zero_le _, rfl, by simp [wtR], by simp [wtR]; omega, Below.refl _ _⟩
  case round =>
   obtain ⟨k, hkl, rfl, rfl, hpos, hb⟩ := hrel
   have hz := hb.size
   by_cases hlt : k < xs.length
   ·obtain ⟨b, off, rfl, hbs, _⟩ := zk hv (by omega)
    obtain ⟨a1, c1, f1, a3, c3, f3, d0, d1, d2, d3, m0, m1, m2, m3, _⟩ := Eqn.at (hv.below hb) hlt
    have hbz : b < wr.heap.size := by omega
    have HS := Lib.hid (zE Eqn.cd xs k hlt)
    have hle := zN Eqn.cd xs (k + 1)
    rw [HS.out] at hle
    
    go_wp2_with fail
    refine (szEq_x xs[k] _ _ _ _ (by omega) (by omega) (Eqn.close m0 m1 m2 m3)).mono ?_
    rintro e w2 ⟨⟨r, rfl, ⟨hr, rfl⟩ | ⟨hr, rfl⟩⟩, hb2⟩
    ·go_wp2_with fail
     go_roundw
     case rel => exact ⟨k + 1, by omega, by go_num, by rw [HS.out]; go_num, by rw [HS.out]; omega, hb.trans (hb2.mono hz)⟩
     case measure => simp [intOf]; omega
    ·go_wp2_with fail
     go_ret
     exact ⟨⟨_, rfl, .inr ⟨by omega, rfl⟩⟩, hb.trans (hb2.mono hz)⟩
   ·have he : (xs.map Eqn.cd).take k = xs.map Eqn.cd := List.take_of_length_le (by simp; omega)
    rw [he] at hpos ⊢
    go_wp2_with fail
    go_ret
    exact ⟨⟨_, rfl, .inl ⟨by omega, by omega⟩⟩, hb⟩
 ·go_enter Try.func5, Try.ntmps5
  go_wp2_with fail
  go_ret
  exact ⟨⟨_, rfl, .inr ⟨by omega, rfl⟩⟩, Below.refl _ _⟩
theorem szWhyS_n (n : Nat) (ih : ∀ (x : Wy) (vs : List Value) (fp : List Nat) (left : Int) (w : World), ndV x.cd ≤ n → 0 ≤ left → left ≤ 1048576 → RdVs w x.cd vs fp → Calls Try.prog 6 #[.agg vs.toArray, .int .i64 left] w (zaM left (wtV x.cd) w)) (xs : List Wy) (v : Value) (fp : List Nat) (left : Int) (w : World) (hn : ∀ x ∈ xs, ndV (Wy.cd x) ≤ n) (h0 : 0 ≤ left) (h1 : left ≤ 1048576) (hv : Rd w (.sl (xs.map Wy.cd)) v fp) :
  Calls Try.prog 24 #[v, .int .i64 left] w (zaM left (xs.length + wtR (xs.map Wy.cd)) w) := by
 obtain ⟨a, c, rfl, hc1, hc2⟩ := ze hv
 have IH := Lib.hid ih
 have HN := Lib.hid hn
 clear ih hn
 by_cases hf : (xs.length : Int) ≤ left
 ·go_enter Try.func24, Try.ntmps24
  go_wp2_with fail
  go_loopw [1, 5] (fun l i wr => ∃ k : Nat, k ≤ xs.length ∧ i = .int .i64 k ∧ l = .int .i64 (left - xs.length - wtR ((xs.map Wy.cd).take k)) ∧ 0 ≤ left - xs.length - wtR ((xs.map Wy.cd).take k) ∧ Below w.heap.size w wr) (fun _ i _ => xs.length - (intOf i).toNat)
  case atStart => exact ⟨0, Nat.zero_le _, rfl, by simp [wtR], by simp [wtR]; omega, Below.refl _ _⟩
  case round =>
   obtain ⟨k, hkl, rfl, rfl, hpos, hb⟩ := hrel
   have hz := hb.size
   by_cases hlt : k < xs.length
   ·obtain ⟨b, off, rfl, hbs, _⟩ := zk hv (by omega)
    obtain ⟨a3, c3, f3, a4, c4, f4, d0, d1, d2, d3, d4, m0, m1, m2, m3, m4, _⟩ := Wy.at (hv.below hb) hlt
    have hbz : b < wr.heap.size := by omega
    have HS := Lib.hid (zE Wy.cd xs k hlt)
    have hle := zN Wy.cd xs (k + 1)
    rw [HS.out] at hle
    
    go_wp2_with fail
    refine (IH.out xs[k] _ _ _ _ (HN.out _ (zc7 hlt)) (by omega) (by omega) (Wy.close m0 m1 m2 m3 m4)).mono ?_
    rintro e w2 ⟨⟨r, rfl, ⟨hr, rfl⟩ | ⟨hr, rfl⟩⟩, hb2⟩
    ·go_wp2_with fail
     go_roundw
     case rel => exact ⟨k + 1, by omega, by go_num, by rw [HS.out]; go_num, by rw [HS.out]; omega, hb.trans (hb2.mono hz)⟩
     case measure => simp [intOf]; omega
    ·go_wp2_with fail
     go_ret
     exact ⟨⟨_, rfl, .inr ⟨by omega, rfl⟩⟩, hb.trans (hb2.mono hz)⟩
   ·have he : (xs.map Wy.cd).take k = xs.map Wy.cd := List.take_of_length_le (by simp; omega)
    rw [he] at hpos ⊢
    go_wp2_with fail
    go_ret
    exact ⟨⟨_, rfl, .inl ⟨by omega, by omega⟩⟩, hb⟩
 ·go_enter Try.func24, Try.ntmps24
  go_wp2_with fail
  go_ret
  exact ⟨⟨_, rfl, .inr ⟨by omega, rfl⟩⟩, Below.refl _ _⟩
theorem szWhy_n (n : Nat) : ∀ (x : Wy) (vs : List Value) (fp : List Nat) (left : Int) (w : World), ndV x.cd ≤ n → 0 ≤ left → left ≤ 1048576 → RdVs w x.cd vs fp → Calls Try.prog 6 #[.agg vs.toArray, .int .i64 left] w (zaM left (wtV x.cd) w) := by
 induction n with
 | zero => intro x vs fp left w hn; have h : 0 < ndV x.cd := (by rw [Wy.cd_eq]; simp [ndV, ndC]; try omega); omega
 | succ n ih =>
  intro x vs fp left w hn h0 h1 hv
  have HK : Hid (∀ k ∈ x.kids, ndV k.cd ≤ n) := fun k hk => by have := Wy.kid_nd hk; omega
  have IH := Lib.hid ih
  clear ih
  obtain ⟨a3, c3, f3, a4, c4, f4, rfl, _, m0, m1, m2, m3, m4⟩ := Wy.open hv
  have hw : wtV x.cd = wtV x.t.cd + (x.kids.length + wtR (x.kids.map Wy.cd)) := by rw [Wy.cd_eq]; simp only [zH, zal, zab, zao, zay]; try omega
  have HW := Lib.hid hw
  clear hw
  go_enter Try.func6, Try.ntmps6
  go_wp2_with fail
  refine (zbZ x.t _ _ _ _ (by omega) (by omega) ((Tm.close m2 m3).below (zb _ _))).mono ?_
  rintro e w1 ⟨⟨r1, rfl, hr1⟩, hb1⟩
  obtain ⟨hx1, hz1, hB1⟩ := box1 (w := w) (wr := w1) (cs := #[.int .i64 x.rule, .int .i64 x.n, .string x.t.name, .slice a3 x.t.kids.length c3, .slice a4 x.kids.length c4]) (T := 31) (zm hb1 (by simp))
  rcases hr1 with ⟨hr1, rfl⟩ | ⟨hr1, rfl⟩
  rotate_left
  ·go_wp2_with fail
   go_ret
   exact ⟨⟨_, rfl, .inr ⟨by have := HW.out; omega, rfl⟩⟩, hB1⟩
  go_wp2_with fail
  refine (szWhyS_n n IH.out x.kids _ _ _ _ HK.out (by omega) (by omega) (m4.below hB1)).mono ?_
  rintro e w2 ⟨⟨r2, rfl, hr2⟩, hb2⟩
  have hB2 := hB1.trans (hb2.mono (by omega))
  have hx2 := za hx1 (by omega) hb2
  have hz2 := Nat.le_trans hz1 hb2.size
  clear hx1
  rcases hr2 with ⟨hr2, rfl⟩ | ⟨hr2, rfl⟩
  rotate_left
  ·go_wp2_with fail
   go_ret
   exact ⟨⟨_, rfl, .inr ⟨by have := HW.out; omega, rfl⟩⟩, hB2⟩
  go_wp2_with fail
  go_ret
  exact ⟨⟨_, rfl, .inl ⟨by have := HW.out; omega, by have := HW.out; omega⟩⟩, hB2⟩
theorem szWhy_x (x : Wy) (vs : List Value) (fp : List Nat) (left : Int) (w : World) (h0 : 0 ≤ left) (h1 : left ≤ 1048576) (hv : RdVs w x.cd vs fp) :
  Calls Try.prog 6 #[.agg vs.toArray, .int .i64 left] w (zaM left (wtV x.cd) w) := szWhy_n _ x vs fp left w (Nat.le_refl _) h0 h1 hv
theorem szSig_x (x : Sg) (vs : List Value) (fp : List Nat) (left : Int) (w : World) (h0 : 0 ≤ left) (h1 : left ≤ 1048576) (hv : RdVs w x.cd vs fp) :
  Calls Try.prog 4 #[.agg vs.toArray, .int .i64 left] w (zaM left (wtV x.cd) w) := by
 obtain ⟨a0, c0, f0, rfl, _, m0⟩ := Sg.open hv
 have hw : wtV x.cd = (x.syms.length + wtR (x.syms.map Sy.cd)) := by unfold Sg.cd; simp only [zH, zal, zab, zao, zay]; try omega
 have HW := Lib.hid hw
 clear hw
 go_enter Try.func4, Try.ntmps4
 go_wp2_with fail
 refine (szSymS_x x.syms _ _ _ _ (by omega) (by omega) (m0.below (zb _ _))).mono ?_
 rintro e w1 ⟨⟨r1, rfl, hr1⟩, hb1⟩
 obtain ⟨hx1, hz1, hB1⟩ := box1 (w := w) (wr := w1) (cs := #[.slice a0 x.syms.length c0]) (T := 24) (zm hb1 (by simp))
 rcases hr1 with ⟨hr1, rfl⟩ | ⟨hr1, rfl⟩
 rotate_left
 ·go_wp2_with fail
  go_ret
  exact ⟨⟨_, rfl, .inr ⟨by have := HW.out; omega, rfl⟩⟩, hB1⟩
 go_wp2_with fail
 go_ret
 exact ⟨⟨_, rfl, .inl ⟨by have := HW.out; omega, by have := HW.out; omega⟩⟩, hB1⟩
end Go.Proofs.Ytcfpnjcamcpieaa
end
