/- The exact laws' sz functions. -/
import Derived.Test.YteclieenkephfaaGreatExLib
namespace Go.Proofs.YteclieenkephfaaGreat
open Go Go.RowKit
set_option linter.unusedVariables false
set_option linter.unusedSimpArgs false


theorem szIntS_x (xs : List Int) (v : Value) (fp : List Nat) (left : Int) (w : World) (h0 : 0 ≤ left) (h1 : left ≤ 1048576) (hv : Rd w (.sl (xs.map intCd)) v fp) :
    Calls Tryz.prog 59 #[v, .int .i64 left] w (SzOut left (xs.length + wtR (xs.map intCd)) w) := by
  obtain ⟨a, c, rfl, hc1, hc2⟩ := rd_sl_inv hv
  have HW := Lib.hid (wtR_ints xs)
  by_cases hf : (xs.length : Int) ≤ left
  all_goals
    go_enter Tryz.func59, Tryz.ntmps59
    go_wp2_with fail
    go_ret
    unfold SzOut SzRes
    rw [HW.out]
  · exact ⟨⟨_, rfl, .inl ⟨by omega, by omega⟩⟩, Below.refl _ _⟩
  · exact ⟨⟨_, rfl, .inr ⟨by omega, rfl⟩⟩, Below.refl _ _⟩
theorem szTermS_n (n : Nat) (ih : ∀ (x : Tm) (vs : List Value) (fp : List Nat) (left : Int) (w : World), ndV x.cd ≤ n → 0 ≤ left → left ≤ 1048576 → RdVs w x.cd vs fp → Calls Tryz.prog 60 #[.agg vs.toArray, .int .i64 left] w (SzOut left (wtV x.cd) w)) (xs : List Tm) (v : Value) (fp : List Nat) (left : Int) (w : World) (hn : ∀ x ∈ xs, ndV (Tm.cd x) ≤ n) (h0 : 0 ≤ left) (h1 : left ≤ 1048576) (hv : Rd w (.sl (xs.map Tm.cd)) v fp) :
    Calls Tryz.prog 61 #[v, .int .i64 left] w (SzOut left (xs.length + wtR (xs.map Tm.cd)) w) := by
  obtain ⟨a, c, rfl, hc1, hc2⟩ := rd_sl_inv hv
  have IH := Lib.hid ih
  have HN := Lib.hid hn
  clear ih hn
  by_cases hf : (xs.length : Int) ≤ left
  · go_enter Tryz.func61, Tryz.ntmps61
    go_wp2_with fail
    go_loopw [1, 5] (fun l i wr => ∃ k : Nat, k ≤ xs.length ∧ i = .int .i64 k ∧ l = .int .i64 (left - xs.length - wtR ((xs.map Tm.cd).take k)) ∧ 0 ≤ left - xs.length - wtR ((xs.map Tm.cd).take k) ∧ Below w.heap.size w wr) (fun _ i _ => xs.length - (intOf i).toNat)
    case atStart => exact ⟨0, Nat.zero_le _, rfl, by simp [wtR], by simp [wtR]; omega, Below.refl _ _⟩
    case round =>
      obtain ⟨k, hkl, rfl, rfl, hpos, hb⟩ := hrel
      have hz := hb.size
      by_cases hlt : k < xs.length
      · obtain ⟨b, off, rfl, hbs, _⟩ := rd_addr hv (by omega)
        obtain ⟨a1, c1, f1, d0, d1, m0, m1, _⟩ := Tm.at (hv.below hb) hlt
        have hbz : b < wr.heap.size := by omega
        have HS := Lib.hid (wtR_take_succ Tm.cd xs k hlt)
        have hle := wtR_take_le Tm.cd xs (k + 1)
        rw [HS.out] at hle
        
        go_wp2_with fail
        refine (IH.out xs[k] _ _ _ _ (HN.out _ (List.getElem_mem hlt)) (by omega) (by omega) (Tm.close m0 m1)).mono ?_
        rintro e w2 ⟨⟨r, rfl, ⟨hr, rfl⟩ | ⟨hr, rfl⟩⟩, hb2⟩
        · go_wp2_with fail
          go_roundw
          case rel => exact ⟨k + 1, by omega, by go_num, by rw [HS.out]; go_num, by rw [HS.out]; omega, hb.trans (hb2.mono hz)⟩
          case measure => simp [intOf]; omega
        · go_wp2_with fail
          go_ret
          exact ⟨⟨_, rfl, .inr ⟨by omega, rfl⟩⟩, hb.trans (hb2.mono hz)⟩
      · have he : (xs.map Tm.cd).take k = xs.map Tm.cd := List.take_of_length_le (by simp; omega)
        rw [he] at hpos ⊢
        go_wp2_with fail
        go_ret
        exact ⟨⟨_, rfl, .inl ⟨by omega, by omega⟩⟩, hb⟩
  · go_enter Tryz.func61, Tryz.ntmps61
    go_wp2_with fail
    go_ret
    exact ⟨⟨_, rfl, .inr ⟨by omega, rfl⟩⟩, Below.refl _ _⟩
theorem szTerm_n (n : Nat) : ∀ (x : Tm) (vs : List Value) (fp : List Nat) (left : Int) (w : World), ndV x.cd ≤ n → 0 ≤ left → left ≤ 1048576 → RdVs w x.cd vs fp → Calls Tryz.prog 60 #[.agg vs.toArray, .int .i64 left] w (SzOut left (wtV x.cd) w) := by
  induction n with
  | zero => intro x vs fp left w hn; have h : 0 < ndV x.cd := by rw [Tm.cd_eq]; simp [ndV, ndC]; try omega
            omega
  | succ n ih =>
    intro x vs fp left w hn h0 h1 hv
    have HK : Hid (∀ k ∈ x.kids, ndV k.cd ≤ n) := fun k hk => by have := Tm.kid_nd hk; omega
    have IH := Lib.hid ih
    clear ih
    obtain ⟨a1, c1, f1, rfl, _, m0, m1⟩ := Tm.open hv
    have hw : wtV x.cd = x.name.size + (x.kids.length + wtR (x.kids.map Tm.cd)) := by rw [Tm.cd_app]; simp only [wtV_append, wtV_int, wtV_bool, wtV_str, wtV_sl]; try omega
    have HW := Lib.hid hw
    clear hw
    have hs : x.name.size ≤ 9223372036854775807 := by simpa [maxLen] using m0
    by_cases hf : (x.name.size : Int) ≤ left
    · skip
      go_enter Tryz.func60, Tryz.ntmps60
      go_wp2_with fail
      refine (szTermS_n n IH.out x.kids _ _ _ _ HK.out (by omega) (by omega) (m1.below (below_alloc _ _))).mono ?_
      rintro e w1 ⟨⟨r1, rfl, hr1⟩, hb1⟩
      obtain ⟨hx1, hz1, hB1⟩ := box1 (w := w) (wr := w1) (cs := #[.string x.name, .slice a1 x.kids.length c1]) (T := 47) (below_size hb1 (by simp))
      rcases hr1 with ⟨hr1, rfl⟩ | ⟨hr1, rfl⟩
      rotate_left
      · go_wp2_with fail
        go_ret
        exact ⟨⟨_, rfl, .inr ⟨by have := HW.out; omega, rfl⟩⟩, hB1⟩
      go_wp2_with fail
      go_ret
      exact ⟨⟨_, rfl, .inl ⟨by have := HW.out; omega, by have := HW.out; omega⟩⟩, hB1⟩
    · skip
      go_enter Tryz.func60, Tryz.ntmps60
      go_wp2_with fail
      go_ret
      exact ⟨⟨_, rfl, .inr ⟨by have := HW.out; omega, rfl⟩⟩, below_alloc _ _⟩
theorem szTermS_x (xs : List Tm) (v : Value) (fp : List Nat) (left : Int) (w : World) (h0 : 0 ≤ left) (h1 : left ≤ 1048576) (hv : Rd w (.sl (xs.map Tm.cd)) v fp) :
    Calls Tryz.prog 61 #[v, .int .i64 left] w (SzOut left (xs.length + wtR (xs.map Tm.cd)) w) :=
  szTermS_n (ndR (xs.map Tm.cd)) (szTerm_n _) xs v fp left w (fun x hx => Nat.le_of_lt (ndR_mem (List.mem_map_of_mem hx))) h0 h1 hv
theorem szTerm_x (x : Tm) (vs : List Value) (fp : List Nat) (left : Int) (w : World) (h0 : 0 ≤ left) (h1 : left ≤ 1048576) (hv : RdVs w x.cd vs fp) :
    Calls Tryz.prog 60 #[.agg vs.toArray, .int .i64 left] w (SzOut left (wtV x.cd) w) := szTerm_n _ x vs fp left w (Nat.le_refl _) h0 h1 hv
theorem szSym_x (x : Sy) (vs : List Value) (fp : List Nat) (left : Int) (w : World) (h0 : 0 ≤ left) (h1 : left ≤ 1048576) (hv : RdVs w x.cd vs fp) :
    Calls Tryz.prog 36 #[.agg vs.toArray, .int .i64 left] w (SzOut left (wtV x.cd) w) := by
  obtain ⟨a1, c1, f1, rfl, _, m0, m1, m2⟩ := Sy.open hv
  have hw : wtV x.cd = x.name.size + (x.args.length + wtR (x.args.map intCd)) := by unfold Sy.cd; simp only [wtV_append, wtV_int, wtV_bool, wtV_str, wtV_sl]; try omega
  have HW := Lib.hid hw
  clear hw
  have hs : x.name.size ≤ 9223372036854775807 := by simpa [maxLen] using m0
  by_cases hf : (x.name.size : Int) ≤ left
  · skip
    go_enter Tryz.func36, Tryz.ntmps36
    go_wp2_with fail
    refine (szIntS_x x.args _ _ _ _ (by omega) (by omega) (m1.below (below_alloc _ _))).mono ?_
    rintro e w1 ⟨⟨r1, rfl, hr1⟩, hb1⟩
    obtain ⟨hx1, hz1, hB1⟩ := box1 (w := w) (wr := w1) (cs := #[.string x.name, .slice a1 x.args.length c1, .int .i64 x.sort]) (T := 78) (below_size hb1 (by simp))
    rcases hr1 with ⟨hr1, rfl⟩ | ⟨hr1, rfl⟩
    rotate_left
    · go_wp2_with fail
      go_ret
      exact ⟨⟨_, rfl, .inr ⟨by have := HW.out; omega, rfl⟩⟩, hB1⟩
    go_wp2_with fail
    go_ret
    exact ⟨⟨_, rfl, .inl ⟨by have := HW.out; omega, by have := HW.out; omega⟩⟩, hB1⟩
  · skip
    go_enter Tryz.func36, Tryz.ntmps36
    go_wp2_with fail
    go_ret
    exact ⟨⟨_, rfl, .inr ⟨by have := HW.out; omega, rfl⟩⟩, below_alloc _ _⟩
theorem szSymS_x (xs : List Sy) (v : Value) (fp : List Nat) (left : Int) (w : World) (h0 : 0 ≤ left) (h1 : left ≤ 1048576) (hv : Rd w (.sl (xs.map Sy.cd)) v fp) :
    Calls Tryz.prog 17 #[v, .int .i64 left] w (SzOut left (xs.length + wtR (xs.map Sy.cd)) w) := by
  obtain ⟨a, c, rfl, hc1, hc2⟩ := rd_sl_inv hv
  by_cases hf : (xs.length : Int) ≤ left
  · go_enter Tryz.func17, Tryz.ntmps17
    go_wp2_with fail
    go_loopw [1, 5] (fun l i wr => ∃ k : Nat, k ≤ xs.length ∧ i = .int .i64 k ∧ l = .int .i64 (left - xs.length - wtR ((xs.map Sy.cd).take k)) ∧ 0 ≤ left - xs.length - wtR ((xs.map Sy.cd).take k) ∧ Below w.heap.size w wr) (fun _ i _ => xs.length - (intOf i).toNat)
    case atStart => exact ⟨0, Nat.zero_le _, rfl, by simp [wtR], by simp [wtR]; omega, Below.refl _ _⟩
    case round =>
      obtain ⟨k, hkl, rfl, rfl, hpos, hb⟩ := hrel
      have hz := hb.size
      by_cases hlt : k < xs.length
      · obtain ⟨b, off, rfl, hbs, _⟩ := rd_addr hv (by omega)
        obtain ⟨a1, c1, f1, d0, d1, d2, m0, m1, m2, _⟩ := Sy.at (hv.below hb) hlt
        have hbz : b < wr.heap.size := by omega
        have HS := Lib.hid (wtR_take_succ Sy.cd xs k hlt)
        have hle := wtR_take_le Sy.cd xs (k + 1)
        rw [HS.out] at hle
        
        go_wp2_with fail
        refine (szSym_x xs[k] _ _ _ _ (by omega) (by omega) (Sy.close m0 m1 m2)).mono ?_
        rintro e w2 ⟨⟨r, rfl, ⟨hr, rfl⟩ | ⟨hr, rfl⟩⟩, hb2⟩
        · go_wp2_with fail
          go_roundw
          case rel => exact ⟨k + 1, by omega, by go_num, by rw [HS.out]; go_num, by rw [HS.out]; omega, hb.trans (hb2.mono hz)⟩
          case measure => simp [intOf]; omega
        · go_wp2_with fail
          go_ret
          exact ⟨⟨_, rfl, .inr ⟨by omega, rfl⟩⟩, hb.trans (hb2.mono hz)⟩
      · have he : (xs.map Sy.cd).take k = xs.map Sy.cd := List.take_of_length_le (by simp; omega)
        rw [he] at hpos ⊢
        go_wp2_with fail
        go_ret
        exact ⟨⟨_, rfl, .inl ⟨by omega, by omega⟩⟩, hb⟩
  · go_enter Tryz.func17, Tryz.ntmps17
    go_wp2_with fail
    go_ret
    exact ⟨⟨_, rfl, .inr ⟨by omega, rfl⟩⟩, Below.refl _ _⟩
theorem szAtom_x (x : Atm) (vs : List Value) (fp : List Nat) (left : Int) (w : World) (h0 : 0 ≤ left) (h1 : left ≤ 1048576) (hv : RdVs w x.cd vs fp) :
    Calls Tryz.prog 37 #[.agg vs.toArray, .int .i64 left] w (SzOut left (wtV x.cd) w) := by
  obtain ⟨a2, c2, f2, a4, c4, f4, a5, c5, f5, a6, c6, f6, rfl, _, m0, m1, m2, m3, m4, m5, m6, m7⟩ := Atm.open hv
  have hw : wtV x.cd = wtV x.a.cd + wtV x.b.cd + (x.nums.length + wtR (x.nums.map Tm.cd)) + (x.times.length + wtR (x.times.map intCd)) := by unfold Atm.cd; simp only [wtV_append, wtV_int, wtV_bool, wtV_str, wtV_sl]; try omega
  have HW := Lib.hid hw
  clear hw
  go_enter Tryz.func37, Tryz.ntmps37
  go_wp2_with fail
  refine (szTerm_x x.a _ _ _ _ (by omega) (by omega) ((Tm.close m1 m2).below (below_alloc _ _))).mono ?_
  rintro e w1 ⟨⟨r1, rfl, hr1⟩, hb1⟩
  obtain ⟨hx1, hz1, hB1⟩ := box1 (w := w) (wr := w1) (cs := #[.int .i64 x.kind, .string x.a.name, .slice a2 x.a.kids.length c2, .string x.b.name, .slice a4 x.b.kids.length c4, .slice a5 x.nums.length c5, .slice a6 x.times.length c6, .int .i64 x.bound, .bool x.strict]) (T := 50) (below_size hb1 (by simp))
  rcases hr1 with ⟨hr1, rfl⟩ | ⟨hr1, rfl⟩
  rotate_left
  · go_wp2_with fail
    go_ret
    exact ⟨⟨_, rfl, .inr ⟨by have := HW.out; omega, rfl⟩⟩, hB1⟩
  go_wp2_with fail
  refine (szTerm_x x.b _ _ _ _ (by omega) (by omega) ((Tm.close m3 m4).below hB1)).mono ?_
  rintro e w2 ⟨⟨r2, rfl, hr2⟩, hb2⟩
  have hB2 := hB1.trans (hb2.mono (by omega))
  have hx2 := cells_later hx1 (by omega) hb2
  have hz2 := Nat.le_trans hz1 hb2.size
  clear hx1
  rcases hr2 with ⟨hr2, rfl⟩ | ⟨hr2, rfl⟩
  rotate_left
  · go_wp2_with fail
    go_ret
    exact ⟨⟨_, rfl, .inr ⟨by have := HW.out; omega, rfl⟩⟩, hB2⟩
  go_wp2_with fail
  refine (szTermS_x x.nums _ _ _ _ (by omega) (by omega) (m5.below hB2)).mono ?_
  rintro e w3 ⟨⟨r3, rfl, hr3⟩, hb3⟩
  have hB3 := hB2.trans (hb3.mono (by omega))
  have hx3 := cells_later hx2 (by omega) hb3
  have hz3 := Nat.le_trans hz2 hb3.size
  clear hx2
  rcases hr3 with ⟨hr3, rfl⟩ | ⟨hr3, rfl⟩
  rotate_left
  · go_wp2_with fail
    go_ret
    exact ⟨⟨_, rfl, .inr ⟨by have := HW.out; omega, rfl⟩⟩, hB3⟩
  go_wp2_with fail
  refine (szIntS_x x.times _ _ _ _ (by omega) (by omega) (m6.below hB3)).mono ?_
  rintro e w4 ⟨⟨r4, rfl, hr4⟩, hb4⟩
  have hB4 := hB3.trans (hb4.mono (by omega))
  have hx4 := cells_later hx3 (by omega) hb4
  have hz4 := Nat.le_trans hz3 hb4.size
  clear hx3
  rcases hr4 with ⟨hr4, rfl⟩ | ⟨hr4, rfl⟩
  rotate_left
  · go_wp2_with fail
    go_ret
    exact ⟨⟨_, rfl, .inr ⟨by have := HW.out; omega, rfl⟩⟩, hB4⟩
  go_wp2_with fail
  go_ret
  exact ⟨⟨_, rfl, .inl ⟨by have := HW.out; omega, by have := HW.out; omega⟩⟩, hB4⟩
theorem szLit_x (x : Lt) (vs : List Value) (fp : List Nat) (left : Int) (w : World) (h0 : 0 ≤ left) (h1 : left ≤ 1048576) (hv : RdVs w x.cd vs fp) :
    Calls Tryz.prog 18 #[.agg vs.toArray, .int .i64 left] w (SzOut left (wtV x.cd) w) := by
  obtain ⟨a2, c2, f2, a4, c4, f4, a5, c5, f5, a6, c6, f6, rfl, _, m0, m1, m2, m3, m4, m5, m6, m7⟩ := Lt.open hv
  have hw : wtV x.cd = wtV x.atom.cd := by unfold Lt.cd; simp only [wtV_append, wtV_int, wtV_bool, wtV_str, wtV_sl]; try omega
  have HW := Lib.hid hw
  clear hw
  go_enter Tryz.func18, Tryz.ntmps18
  go_wp2_with fail
  refine (szAtom_x x.atom _ _ _ _ (by omega) (by omega) ((Atm.close m0 m1 m2 m3 m4 m5 m6 m7).below (below_alloc _ _))).mono ?_
  rintro e w1 ⟨⟨r1, rfl, hr1⟩, hb1⟩
  obtain ⟨hx1, hz1, hB1⟩ := box1 (w := w) (wr := w1) (cs := #[.int .i64 x.atom.kind, .string x.atom.a.name, .slice a2 x.atom.a.kids.length c2, .string x.atom.b.name, .slice a4 x.atom.b.kids.length c4, .slice a5 x.atom.nums.length c5, .slice a6 x.atom.times.length c6, .int .i64 x.atom.bound, .bool x.atom.strict, .bool x.no]) (T := 52) (below_size hb1 (by simp))
  rcases hr1 with ⟨hr1, rfl⟩ | ⟨hr1, rfl⟩
  rotate_left
  · go_wp2_with fail
    go_ret
    exact ⟨⟨_, rfl, .inr ⟨by have := HW.out; omega, rfl⟩⟩, hB1⟩
  go_wp2_with fail
  go_ret
  exact ⟨⟨_, rfl, .inl ⟨by have := HW.out; omega, by have := HW.out; omega⟩⟩, hB1⟩
theorem szLitS_x (xs : List Lt) (v : Value) (fp : List Nat) (left : Int) (w : World) (h0 : 0 ≤ left) (h1 : left ≤ 1048576) (hv : Rd w (.sl (xs.map Lt.cd)) v fp) :
    Calls Tryz.prog 5 #[v, .int .i64 left] w (SzOut left (xs.length + wtR (xs.map Lt.cd)) w) := by
  obtain ⟨a, c, rfl, hc1, hc2⟩ := rd_sl_inv hv
  by_cases hf : (xs.length : Int) ≤ left
  · go_enter Tryz.func5, Tryz.ntmps5
    go_wp2_with fail
    go_loopw [1, 5] (fun l i wr => ∃ k : Nat, k ≤ xs.length ∧ i = .int .i64 k ∧ l = .int .i64 (left - xs.length - wtR ((xs.map Lt.cd).take k)) ∧ 0 ≤ left - xs.length - wtR ((xs.map Lt.cd).take k) ∧ Below w.heap.size w wr) (fun _ i _ => xs.length - (intOf i).toNat)
    case atStart => exact ⟨0, Nat.zero_le _, rfl, by simp [wtR], by simp [wtR]; omega, Below.refl _ _⟩
    case round =>
      obtain ⟨k, hkl, rfl, rfl, hpos, hb⟩ := hrel
      have hz := hb.size
      by_cases hlt : k < xs.length
      · obtain ⟨b, off, rfl, hbs, _⟩ := rd_addr hv (by omega)
        obtain ⟨a2, c2, f2, a4, c4, f4, a5, c5, f5, a6, c6, f6, d0, d1, d2, d3, d4, d5, d6, d7, d8, d9, m0, m1, m2, m3, m4, m5, m6, m7, _⟩ := Lt.at (hv.below hb) hlt
        have hbz : b < wr.heap.size := by omega
        have HS := Lib.hid (wtR_take_succ Lt.cd xs k hlt)
        have hle := wtR_take_le Lt.cd xs (k + 1)
        rw [HS.out] at hle
        
        go_wp2_with fail
        refine (szLit_x xs[k] _ _ _ _ (by omega) (by omega) (Lt.close m0 m1 m2 m3 m4 m5 m6 m7)).mono ?_
        rintro e w2 ⟨⟨r, rfl, ⟨hr, rfl⟩ | ⟨hr, rfl⟩⟩, hb2⟩
        · go_wp2_with fail
          go_roundw
          case rel => exact ⟨k + 1, by omega, by go_num, by rw [HS.out]; go_num, by rw [HS.out]; omega, hb.trans (hb2.mono hz)⟩
          case measure => simp [intOf]; omega
        · go_wp2_with fail
          go_ret
          exact ⟨⟨_, rfl, .inr ⟨by omega, rfl⟩⟩, hb.trans (hb2.mono hz)⟩
      · have he : (xs.map Lt.cd).take k = xs.map Lt.cd := List.take_of_length_le (by simp; omega)
        rw [he] at hpos ⊢
        go_wp2_with fail
        go_ret
        exact ⟨⟨_, rfl, .inl ⟨by omega, by omega⟩⟩, hb⟩
  · go_enter Tryz.func5, Tryz.ntmps5
    go_wp2_with fail
    go_ret
    exact ⟨⟨_, rfl, .inr ⟨by omega, rfl⟩⟩, Below.refl _ _⟩
theorem szSig_x (x : Sg) (vs : List Value) (fp : List Nat) (left : Int) (w : World) (h0 : 0 ≤ left) (h1 : left ≤ 1048576) (hv : RdVs w x.cd vs fp) :
    Calls Tryz.prog 4 #[.agg vs.toArray, .int .i64 left] w (SzOut left (wtV x.cd) w) := by
  obtain ⟨a0, c0, f0, rfl, _, m0⟩ := Sg.open hv
  have hw : wtV x.cd = (x.syms.length + wtR (x.syms.map Sy.cd)) := by unfold Sg.cd; simp only [wtV_append, wtV_int, wtV_bool, wtV_str, wtV_sl]; try omega
  have HW := Lib.hid hw
  clear hw
  go_enter Tryz.func4, Tryz.ntmps4
  go_wp2_with fail
  refine (szSymS_x x.syms _ _ _ _ (by omega) (by omega) (m0.below (below_alloc _ _))).mono ?_
  rintro e w1 ⟨⟨r1, rfl, hr1⟩, hb1⟩
  obtain ⟨hx1, hz1, hB1⟩ := box1 (w := w) (wr := w1) (cs := #[.slice a0 x.syms.length c0]) (T := 24) (below_size hb1 (by simp))
  rcases hr1 with ⟨hr1, rfl⟩ | ⟨hr1, rfl⟩
  rotate_left
  · go_wp2_with fail
    go_ret
    exact ⟨⟨_, rfl, .inr ⟨by have := HW.out; omega, rfl⟩⟩, hB1⟩
  go_wp2_with fail
  go_ret
  exact ⟨⟨_, rfl, .inl ⟨by have := HW.out; omega, by have := HW.out; omega⟩⟩, hB1⟩
end Go.Proofs.YteclieenkephfaaGreat
