/- The exact laws' sz functions. -/
import Derived.Test.YtgokggnmacjafaaExLib
namespace Go.Proofs.Ytgokggnmacjafaa
open Go Go.RowKit
set_option linter.unusedVariables false
set_option linter.unusedSimpArgs false


theorem szIntS_x (xs : List Int) (v : Value) (fp : List Nat) (left : Int) (w : World) (h0 : 0 ≤ left) (h1 : left ≤ 1048576) (hv : Rd w (.sl (xs.map intCd)) v fp) :
    Calls Try.prog 198 #[v, .int .i64 left] w (SzOut left (xs.length + wtR (xs.map intCd)) w) := by
  obtain ⟨a, c, rfl, hc1, hc2⟩ := rd_sl_inv hv
  have HW := Lib.hid (wtR_ints xs)
  by_cases hf : (xs.length : Int) ≤ left
  all_goals
    go_enter Try.func198, Try.ntmps198
    go_wp2_with fail
    go_ret
    unfold SzOut SzRes
    rw [HW.out]
  · exact ⟨⟨_, rfl, .inl ⟨by omega, by omega⟩⟩, Below.refl _ _⟩
  · exact ⟨⟨_, rfl, .inr ⟨by omega, rfl⟩⟩, Below.refl _ _⟩
theorem szTermS_n (n : Nat) (ih : ∀ (x : Tm) (vs : List Value) (fp : List Nat) (left : Int) (w : World), ndV x.cd ≤ n → 0 ≤ left → left ≤ 1048576 → RdVs w x.cd vs fp → Calls Try.prog 29 #[.agg vs.toArray, .int .i64 left] w (SzOut left (wtV x.cd) w)) (xs : List Tm) (v : Value) (fp : List Nat) (left : Int) (w : World) (hn : ∀ x ∈ xs, ndV (Tm.cd x) ≤ n) (h0 : 0 ≤ left) (h1 : left ≤ 1048576) (hv : Rd w (.sl (xs.map Tm.cd)) v fp) :
    Calls Try.prog 38 #[v, .int .i64 left] w (SzOut left (xs.length + wtR (xs.map Tm.cd)) w) := by
  obtain ⟨a, c, rfl, hc1, hc2⟩ := rd_sl_inv hv
  have IH := Lib.hid ih
  have HN := Lib.hid hn
  clear ih hn
  by_cases hf : (xs.length : Int) ≤ left
  · go_enter Try.func38, Try.ntmps38
    go_wp2_with fail
    go_loopw [1, 5] (fun l i wr => ∃ k : Nat, k ≤ xs.length ∧ i = .int .i64 k ∧ l = .int .i64 (left - xs.length - wtR ((xs.map Tm.cd).take k)) ∧ 0 ≤ left - xs.length - wtR ((xs.map Tm.cd).take k) ∧ Below w.heap.size w wr) (fun _ i _ => xs.length - (intOf i).toNat)
    case atStart => exact ⟨0, Nat.zero_le _, rfl, by simp [wtR], by simp [wtR]; omega, Below.refl _ _⟩
    case round =>
      obtain ⟨k, hkl, rfl, rfl, hpos, hb⟩ := hrel
      have hz := hb.size
      by_cases hlt : k < xs.length
      · obtain ⟨b, off, rfl, hbs, _⟩ := rd_addr hv (by omega)
        obtain ⟨a1, c1, f1, d0, d1, m0, m1, _⟩ := Tm.at (hv.below hb) hlt
        have hbz : b < wr.heap.size := by omega
        have HS := Lib.hid (wtR_take_succ Tm.cd xs k hlt)
        have hle := wtR_take_le Tm.cd xs (k + 1)
        rw [HS.out] at hle
        
        go_wp2_with fail
        refine (IH.out xs[k] _ _ _ _ (HN.out _ (List.getElem_mem hlt)) (by omega) (by omega) (Tm.close m0 m1)).mono ?_
        rintro e w2 ⟨⟨r, rfl, ⟨hr, rfl⟩ | ⟨hr, rfl⟩⟩, hb2⟩
        · go_wp2_with fail
          go_roundw
          case rel => exact ⟨k + 1, by omega, by go_num, by rw [HS.out]; go_num, by rw [HS.out]; omega, hb.trans (hb2.mono hz)⟩
          case measure => simp [intOf]; omega
        · go_wp2_with fail
          go_ret
          exact ⟨⟨_, rfl, .inr ⟨by omega, rfl⟩⟩, hb.trans (hb2.mono hz)⟩
      · have he : (xs.map Tm.cd).take k = xs.map Tm.cd := List.take_of_length_le (by simp; omega)
        rw [he] at hpos ⊢
        go_wp2_with fail
        go_ret
        exact ⟨⟨_, rfl, .inl ⟨by omega, by omega⟩⟩, hb⟩
  · go_enter Try.func38, Try.ntmps38
    go_wp2_with fail
    go_ret
    exact ⟨⟨_, rfl, .inr ⟨by omega, rfl⟩⟩, Below.refl _ _⟩
theorem szTerm_n (n : Nat) : ∀ (x : Tm) (vs : List Value) (fp : List Nat) (left : Int) (w : World), ndV x.cd ≤ n → 0 ≤ left → left ≤ 1048576 → RdVs w x.cd vs fp → Calls Try.prog 29 #[.agg vs.toArray, .int .i64 left] w (SzOut left (wtV x.cd) w) := by
  induction n with
  | zero => intro x vs fp left w hn; have h : 0 < ndV x.cd := by rw [Tm.cd_eq]; simp [ndV, ndC]; try omega
            omega
  | succ n ih =>
    intro x vs fp left w hn h0 h1 hv
    have HK : Hid (∀ k ∈ x.kids, ndV k.cd ≤ n) := fun k hk => by have := Tm.kid_nd hk; omega
    have IH := Lib.hid ih
    clear ih
    obtain ⟨a1, c1, f1, rfl, _, m0, m1⟩ := Tm.open hv
    have hw : wtV x.cd = x.name.size + (x.kids.length + wtR (x.kids.map Tm.cd)) := by rw [Tm.cd_app]; simp only [wtV_append, wtV_int, wtV_bool, wtV_str, wtV_sl]; try omega
    have HW := Lib.hid hw
    clear hw
    have hs : x.name.size ≤ 9223372036854775807 := by simpa [maxLen] using m0
    by_cases hf : (x.name.size : Int) ≤ left
    · skip
      go_enter Try.func29, Try.ntmps29
      go_wp2_with fail
      refine (szTermS_n n IH.out x.kids _ _ _ _ HK.out (by omega) (by omega) (m1.below (below_alloc _ _))).mono ?_
      rintro e w1 ⟨⟨r1, rfl, hr1⟩, hb1⟩
      obtain ⟨hx1, hz1, hB1⟩ := box1 (w := w) (wr := w1) (cs := #[.string x.name, .slice a1 x.kids.length c1]) (T := 59) (below_size hb1 (by simp))
      rcases hr1 with ⟨hr1, rfl⟩ | ⟨hr1, rfl⟩
      rotate_left
      · go_wp2_with fail
        go_ret
        exact ⟨⟨_, rfl, .inr ⟨by have := HW.out; omega, rfl⟩⟩, hB1⟩
      go_wp2_with fail
      go_ret
      exact ⟨⟨_, rfl, .inl ⟨by have := HW.out; omega, by have := HW.out; omega⟩⟩, hB1⟩
    · skip
      go_enter Try.func29, Try.ntmps29
      go_wp2_with fail
      go_ret
      exact ⟨⟨_, rfl, .inr ⟨by have := HW.out; omega, rfl⟩⟩, below_alloc _ _⟩
theorem szTermS_x (xs : List Tm) (v : Value) (fp : List Nat) (left : Int) (w : World) (h0 : 0 ≤ left) (h1 : left ≤ 1048576) (hv : Rd w (.sl (xs.map Tm.cd)) v fp) :
    Calls Try.prog 38 #[v, .int .i64 left] w (SzOut left (xs.length + wtR (xs.map Tm.cd)) w) :=
  szTermS_n (ndR (xs.map Tm.cd)) (szTerm_n _) xs v fp left w (fun x hx => Nat.le_of_lt (ndR_mem (List.mem_map_of_mem hx))) h0 h1 hv
theorem szTerm_x (x : Tm) (vs : List Value) (fp : List Nat) (left : Int) (w : World) (h0 : 0 ≤ left) (h1 : left ≤ 1048576) (hv : RdVs w x.cd vs fp) :
    Calls Try.prog 29 #[.agg vs.toArray, .int .i64 left] w (SzOut left (wtV x.cd) w) := szTerm_n _ x vs fp left w (Nat.le_refl _) h0 h1 hv
theorem szSym_x (x : Sy) (vs : List Value) (fp : List Nat) (left : Int) (w : World) (h0 : 0 ≤ left) (h1 : left ≤ 1048576) (hv : RdVs w x.cd vs fp) :
    Calls Try.prog 164 #[.agg vs.toArray, .int .i64 left] w (SzOut left (wtV x.cd) w) := by
  obtain ⟨a1, c1, f1, rfl, _, m0, m1, m2⟩ := Sy.open hv
  have hw : wtV x.cd = x.name.size + (x.args.length + wtR (x.args.map intCd)) := by unfold Sy.cd; simp only [wtV_append, wtV_int, wtV_bool, wtV_str, wtV_sl]; try omega
  have HW := Lib.hid hw
  clear hw
  have hs : x.name.size ≤ 9223372036854775807 := by simpa [maxLen] using m0
  by_cases hf : (x.name.size : Int) ≤ left
  · skip
    go_enter Try.func164, Try.ntmps164
    go_wp2_with fail
    refine (szIntS_x x.args _ _ _ _ (by omega) (by omega) (m1.below (below_alloc _ _))).mono ?_
    rintro e w1 ⟨⟨r1, rfl, hr1⟩, hb1⟩
    obtain ⟨hx1, hz1, hB1⟩ := box1 (w := w) (wr := w1) (cs := #[.string x.name, .slice a1 x.args.length c1, .int .i64 x.sort]) (T := 203) (below_size hb1 (by simp))
    rcases hr1 with ⟨hr1, rfl⟩ | ⟨hr1, rfl⟩
    rotate_left
    · go_wp2_with fail
      go_ret
      exact ⟨⟨_, rfl, .inr ⟨by have := HW.out; omega, rfl⟩⟩, hB1⟩
    go_wp2_with fail
    go_ret
    exact ⟨⟨_, rfl, .inl ⟨by have := HW.out; omega, by have := HW.out; omega⟩⟩, hB1⟩
  · skip
    go_enter Try.func164, Try.ntmps164
    go_wp2_with fail
    go_ret
    exact ⟨⟨_, rfl, .inr ⟨by have := HW.out; omega, rfl⟩⟩, below_alloc _ _⟩
theorem szSymS_x (xs : List Sy) (v : Value) (fp : List Nat) (left : Int) (w : World) (h0 : 0 ≤ left) (h1 : left ≤ 1048576) (hv : Rd w (.sl (xs.map Sy.cd)) v fp) :
    Calls Try.prog 106 #[v, .int .i64 left] w (SzOut left (xs.length + wtR (xs.map Sy.cd)) w) := by
  obtain ⟨a, c, rfl, hc1, hc2⟩ := rd_sl_inv hv
  by_cases hf : (xs.length : Int) ≤ left
  · go_enter Try.func106, Try.ntmps106
    go_wp2_with fail
    go_loopw [1, 5] (fun l i wr => ∃ k : Nat, k ≤ xs.length ∧ i = .int .i64 k ∧ l = .int .i64 (left - xs.length - wtR ((xs.map Sy.cd).take k)) ∧ 0 ≤ left - xs.length - wtR ((xs.map Sy.cd).take k) ∧ Below w.heap.size w wr) (fun _ i _ => xs.length - (intOf i).toNat)
    case atStart => exact ⟨0, Nat.zero_le _, rfl, by simp [wtR], by simp [wtR]; omega, Below.refl _ _⟩
    case round =>
      obtain ⟨k, hkl, rfl, rfl, hpos, hb⟩ := hrel
      have hz := hb.size
      by_cases hlt : k < xs.length
      · obtain ⟨b, off, rfl, hbs, _⟩ := rd_addr hv (by omega)
        obtain ⟨a1, c1, f1, d0, d1, d2, m0, m1, m2, _⟩ := Sy.at (hv.below hb) hlt
        have hbz : b < wr.heap.size := by omega
        have HS := Lib.hid (wtR_take_succ Sy.cd xs k hlt)
        have hle := wtR_take_le Sy.cd xs (k + 1)
        rw [HS.out] at hle
        
        go_wp2_with fail
        refine (szSym_x xs[k] _ _ _ _ (by omega) (by omega) (Sy.close m0 m1 m2)).mono ?_
        rintro e w2 ⟨⟨r, rfl, ⟨hr, rfl⟩ | ⟨hr, rfl⟩⟩, hb2⟩
        · go_wp2_with fail
          go_roundw
          case rel => exact ⟨k + 1, by omega, by go_num, by rw [HS.out]; go_num, by rw [HS.out]; omega, hb.trans (hb2.mono hz)⟩
          case measure => simp [intOf]; omega
        · go_wp2_with fail
          go_ret
          exact ⟨⟨_, rfl, .inr ⟨by omega, rfl⟩⟩, hb.trans (hb2.mono hz)⟩
      · have he : (xs.map Sy.cd).take k = xs.map Sy.cd := List.take_of_length_le (by simp; omega)
        rw [he] at hpos ⊢
        go_wp2_with fail
        go_ret
        exact ⟨⟨_, rfl, .inl ⟨by omega, by omega⟩⟩, hb⟩
  · go_enter Try.func106, Try.ntmps106
    go_wp2_with fail
    go_ret
    exact ⟨⟨_, rfl, .inr ⟨by omega, rfl⟩⟩, Below.refl _ _⟩
theorem szEq_x (x : Eqn) (vs : List Value) (fp : List Nat) (left : Int) (w : World) (h0 : 0 ≤ left) (h1 : left ≤ 1048576) (hv : RdVs w x.cd vs fp) :
    Calls Try.prog 107 #[.agg vs.toArray, .int .i64 left] w (SzOut left (wtV x.cd) w) := by
  obtain ⟨a1, c1, f1, a3, c3, f3, rfl, _, m0, m1, m2, m3⟩ := Eqn.open hv
  have hw : wtV x.cd = wtV x.a.cd + wtV x.b.cd := by unfold Eqn.cd; simp only [wtV_append, wtV_int, wtV_bool, wtV_str, wtV_sl]; try omega
  have HW := Lib.hid hw
  clear hw
  go_enter Try.func107, Try.ntmps107
  go_wp2_with fail
  refine (szTerm_x x.a _ _ _ _ (by omega) (by omega) ((Tm.close m0 m1).below (below_alloc _ _))).mono ?_
  rintro e w1 ⟨⟨r1, rfl, hr1⟩, hb1⟩
  obtain ⟨hx1, hz1, hB1⟩ := box1 (w := w) (wr := w1) (cs := #[.string x.a.name, .slice a1 x.a.kids.length c1, .string x.b.name, .slice a3 x.b.kids.length c3]) (T := 146) (below_size hb1 (by simp))
  rcases hr1 with ⟨hr1, rfl⟩ | ⟨hr1, rfl⟩
  rotate_left
  · go_wp2_with fail
    go_ret
    exact ⟨⟨_, rfl, .inr ⟨by have := HW.out; omega, rfl⟩⟩, hB1⟩
  go_wp2_with fail
  refine (szTerm_x x.b _ _ _ _ (by omega) (by omega) ((Tm.close m2 m3).below hB1)).mono ?_
  rintro e w2 ⟨⟨r2, rfl, hr2⟩, hb2⟩
  have hB2 := hB1.trans (hb2.mono (by omega))
  have hx2 := cells_later hx1 (by omega) hb2
  have hz2 := Nat.le_trans hz1 hb2.size
  clear hx1
  rcases hr2 with ⟨hr2, rfl⟩ | ⟨hr2, rfl⟩
  rotate_left
  · go_wp2_with fail
    go_ret
    exact ⟨⟨_, rfl, .inr ⟨by have := HW.out; omega, rfl⟩⟩, hB2⟩
  go_wp2_with fail
  go_ret
  exact ⟨⟨_, rfl, .inl ⟨by have := HW.out; omega, by have := HW.out; omega⟩⟩, hB2⟩
theorem szEqS_x (xs : List Eqn) (v : Value) (fp : List Nat) (left : Int) (w : World) (h0 : 0 ≤ left) (h1 : left ≤ 1048576) (hv : Rd w (.sl (xs.map Eqn.cd)) v fp) :
    Calls Try.prog 28 #[v, .int .i64 left] w (SzOut left (xs.length + wtR (xs.map Eqn.cd)) w) := by
  obtain ⟨a, c, rfl, hc1, hc2⟩ := rd_sl_inv hv
  by_cases hf : (xs.length : Int) ≤ left
  · go_enter Try.func28, Try.ntmps28
    go_wp2_with fail
    go_loopw [1, 5] (fun l i wr => ∃ k : Nat, k ≤ xs.length ∧ i = .int .i64 k ∧ l = .int .i64 (left - xs.length - wtR ((xs.map Eqn.cd).take k)) ∧ 0 ≤ left - xs.length - wtR ((xs.map Eqn.cd).take k) ∧ Below w.heap.size w wr) (fun _ i _ => xs.length - (intOf i).toNat)
    case atStart => exact ⟨0, Nat.zero_le _, rfl, by simp [wtR], by simp [wtR]; omega, Below.refl _ _⟩
    case round =>
      obtain ⟨k, hkl, rfl, rfl, hpos, hb⟩ := hrel
      have hz := hb.size
      by_cases hlt : k < xs.length
      · obtain ⟨b, off, rfl, hbs, _⟩ := rd_addr hv (by omega)
        obtain ⟨a1, c1, f1, a3, c3, f3, d0, d1, d2, d3, m0, m1, m2, m3, _⟩ := Eqn.at (hv.below hb) hlt
        have hbz : b < wr.heap.size := by omega
        have HS := Lib.hid (wtR_take_succ Eqn.cd xs k hlt)
        have hle := wtR_take_le Eqn.cd xs (k + 1)
        rw [HS.out] at hle
        
        go_wp2_with fail
        refine (szEq_x xs[k] _ _ _ _ (by omega) (by omega) (Eqn.close m0 m1 m2 m3)).mono ?_
        rintro e w2 ⟨⟨r, rfl, ⟨hr, rfl⟩ | ⟨hr, rfl⟩⟩, hb2⟩
        · go_wp2_with fail
          go_roundw
          case rel => exact ⟨k + 1, by omega, by go_num, by rw [HS.out]; go_num, by rw [HS.out]; omega, hb.trans (hb2.mono hz)⟩
          case measure => simp [intOf]; omega
        · go_wp2_with fail
          go_ret
          exact ⟨⟨_, rfl, .inr ⟨by omega, rfl⟩⟩, hb.trans (hb2.mono hz)⟩
      · have he : (xs.map Eqn.cd).take k = xs.map Eqn.cd := List.take_of_length_le (by simp; omega)
        rw [he] at hpos ⊢
        go_wp2_with fail
        go_ret
        exact ⟨⟨_, rfl, .inl ⟨by omega, by omega⟩⟩, hb⟩
  · go_enter Try.func28, Try.ntmps28
    go_wp2_with fail
    go_ret
    exact ⟨⟨_, rfl, .inr ⟨by omega, rfl⟩⟩, Below.refl _ _⟩
theorem szWhyS_n (n : Nat) (ih : ∀ (x : Wy) (vs : List Value) (fp : List Nat) (left : Int) (w : World), ndV x.cd ≤ n → 0 ≤ left → left ≤ 1048576 → RdVs w x.cd vs fp → Calls Try.prog 55 #[.agg vs.toArray, .int .i64 left] w (SzOut left (wtV x.cd) w)) (xs : List Wy) (v : Value) (fp : List Nat) (left : Int) (w : World) (hn : ∀ x ∈ xs, ndV (Wy.cd x) ≤ n) (h0 : 0 ≤ left) (h1 : left ≤ 1048576) (hv : Rd w (.sl (xs.map Wy.cd)) v fp) :
    Calls Try.prog 120 #[v, .int .i64 left] w (SzOut left (xs.length + wtR (xs.map Wy.cd)) w) := by
  obtain ⟨a, c, rfl, hc1, hc2⟩ := rd_sl_inv hv
  have IH := Lib.hid ih
  have HN := Lib.hid hn
  clear ih hn
  by_cases hf : (xs.length : Int) ≤ left
  · go_enter Try.func120, Try.ntmps120
    go_wp2_with fail
    go_loopw [1, 5] (fun l i wr => ∃ k : Nat, k ≤ xs.length ∧ i = .int .i64 k ∧ l = .int .i64 (left - xs.length - wtR ((xs.map Wy.cd).take k)) ∧ 0 ≤ left - xs.length - wtR ((xs.map Wy.cd).take k) ∧ Below w.heap.size w wr) (fun _ i _ => xs.length - (intOf i).toNat)
    case atStart => exact ⟨0, Nat.zero_le _, rfl, by simp [wtR], by simp [wtR]; omega, Below.refl _ _⟩
    case round =>
      obtain ⟨k, hkl, rfl, rfl, hpos, hb⟩ := hrel
      have hz := hb.size
      by_cases hlt : k < xs.length
      · obtain ⟨b, off, rfl, hbs, _⟩ := rd_addr hv (by omega)
        obtain ⟨a3, c3, f3, a4, c4, f4, d0, d1, d2, d3, d4, m0, m1, m2, m3, m4, _⟩ := Wy.at (hv.below hb) hlt
        have hbz : b < wr.heap.size := by omega
        have HS := Lib.hid (wtR_take_succ Wy.cd xs k hlt)
        have hle := wtR_take_le Wy.cd xs (k + 1)
        rw [HS.out] at hle
        
        go_wp2_with fail
        refine (IH.out xs[k] _ _ _ _ (HN.out _ (List.getElem_mem hlt)) (by omega) (by omega) (Wy.close m0 m1 m2 m3 m4)).mono ?_
        rintro e w2 ⟨⟨r, rfl, ⟨hr, rfl⟩ | ⟨hr, rfl⟩⟩, hb2⟩
        · go_wp2_with fail
          go_roundw
          case rel => exact ⟨k + 1, by omega, by go_num, by rw [HS.out]; go_num, by rw [HS.out]; omega, hb.trans (hb2.mono hz)⟩
          case measure => simp [intOf]; omega
        · go_wp2_with fail
          go_ret
          exact ⟨⟨_, rfl, .inr ⟨by omega, rfl⟩⟩, hb.trans (hb2.mono hz)⟩
      · have he : (xs.map Wy.cd).take k = xs.map Wy.cd := List.take_of_length_le (by simp; omega)
        rw [he] at hpos ⊢
        go_wp2_with fail
        go_ret
        exact ⟨⟨_, rfl, .inl ⟨by omega, by omega⟩⟩, hb⟩
  · go_enter Try.func120, Try.ntmps120
    go_wp2_with fail
    go_ret
    exact ⟨⟨_, rfl, .inr ⟨by omega, rfl⟩⟩, Below.refl _ _⟩
theorem szWhy_n (n : Nat) : ∀ (x : Wy) (vs : List Value) (fp : List Nat) (left : Int) (w : World), ndV x.cd ≤ n → 0 ≤ left → left ≤ 1048576 → RdVs w x.cd vs fp → Calls Try.prog 55 #[.agg vs.toArray, .int .i64 left] w (SzOut left (wtV x.cd) w) := by
  induction n with
  | zero => intro x vs fp left w hn; have h : 0 < ndV x.cd := by rw [Wy.cd_eq]; simp [ndV, ndC]; try omega
            omega
  | succ n ih =>
    intro x vs fp left w hn h0 h1 hv
    have HK : Hid (∀ k ∈ x.kids, ndV k.cd ≤ n) := fun k hk => by have := Wy.kid_nd hk; omega
    have IH := Lib.hid ih
    clear ih
    obtain ⟨a3, c3, f3, a4, c4, f4, rfl, _, m0, m1, m2, m3, m4⟩ := Wy.open hv
    have hw : wtV x.cd = wtV x.t.cd + (x.kids.length + wtR (x.kids.map Wy.cd)) := by rw [Wy.cd_eq]; simp only [wtV_append, wtV_int, wtV_bool, wtV_str, wtV_sl]; try omega
    have HW := Lib.hid hw
    clear hw
    go_enter Try.func55, Try.ntmps55
    go_wp2_with fail
    refine (szTerm_x x.t _ _ _ _ (by omega) (by omega) ((Tm.close m2 m3).below (below_alloc _ _))).mono ?_
    rintro e w1 ⟨⟨r1, rfl, hr1⟩, hb1⟩
    obtain ⟨hx1, hz1, hB1⟩ := box1 (w := w) (wr := w1) (cs := #[.int .i64 x.rule, .int .i64 x.n, .string x.t.name, .slice a3 x.t.kids.length c3, .slice a4 x.kids.length c4]) (T := 88) (below_size hb1 (by simp))
    rcases hr1 with ⟨hr1, rfl⟩ | ⟨hr1, rfl⟩
    rotate_left
    · go_wp2_with fail
      go_ret
      exact ⟨⟨_, rfl, .inr ⟨by have := HW.out; omega, rfl⟩⟩, hB1⟩
    go_wp2_with fail
    refine (szWhyS_n n IH.out x.kids _ _ _ _ HK.out (by omega) (by omega) (m4.below hB1)).mono ?_
    rintro e w2 ⟨⟨r2, rfl, hr2⟩, hb2⟩
    have hB2 := hB1.trans (hb2.mono (by omega))
    have hx2 := cells_later hx1 (by omega) hb2
    have hz2 := Nat.le_trans hz1 hb2.size
    clear hx1
    rcases hr2 with ⟨hr2, rfl⟩ | ⟨hr2, rfl⟩
    rotate_left
    · go_wp2_with fail
      go_ret
      exact ⟨⟨_, rfl, .inr ⟨by have := HW.out; omega, rfl⟩⟩, hB2⟩
    go_wp2_with fail
    go_ret
    exact ⟨⟨_, rfl, .inl ⟨by have := HW.out; omega, by have := HW.out; omega⟩⟩, hB2⟩
theorem szWhyS_x (xs : List Wy) (v : Value) (fp : List Nat) (left : Int) (w : World) (h0 : 0 ≤ left) (h1 : left ≤ 1048576) (hv : Rd w (.sl (xs.map Wy.cd)) v fp) :
    Calls Try.prog 120 #[v, .int .i64 left] w (SzOut left (xs.length + wtR (xs.map Wy.cd)) w) :=
  szWhyS_n (ndR (xs.map Wy.cd)) (szWhy_n _) xs v fp left w (fun x hx => Nat.le_of_lt (ndR_mem (List.mem_map_of_mem hx))) h0 h1 hv
theorem szWhy_x (x : Wy) (vs : List Value) (fp : List Nat) (left : Int) (w : World) (h0 : 0 ≤ left) (h1 : left ≤ 1048576) (hv : RdVs w x.cd vs fp) :
    Calls Try.prog 55 #[.agg vs.toArray, .int .i64 left] w (SzOut left (wtV x.cd) w) := szWhy_n _ x vs fp left w (Nat.le_refl _) h0 h1 hv
theorem szSig_x (x : Sg) (vs : List Value) (fp : List Nat) (left : Int) (w : World) (h0 : 0 ≤ left) (h1 : left ≤ 1048576) (hv : RdVs w x.cd vs fp) :
    Calls Try.prog 27 #[.agg vs.toArray, .int .i64 left] w (SzOut left (wtV x.cd) w) := by
  obtain ⟨a0, c0, f0, rfl, _, m0⟩ := Sg.open hv
  have hw : wtV x.cd = (x.syms.length + wtR (x.syms.map Sy.cd)) := by unfold Sg.cd; simp only [wtV_append, wtV_int, wtV_bool, wtV_str, wtV_sl]; try omega
  have HW := Lib.hid hw
  clear hw
  go_enter Try.func27, Try.ntmps27
  go_wp2_with fail
  refine (szSymS_x x.syms _ _ _ _ (by omega) (by omega) (m0.below (below_alloc _ _))).mono ?_
  rintro e w1 ⟨⟨r1, rfl, hr1⟩, hb1⟩
  obtain ⟨hx1, hz1, hB1⟩ := box1 (w := w) (wr := w1) (cs := #[.slice a0 x.syms.length c0]) (T := 55) (below_size hb1 (by simp))
  rcases hr1 with ⟨hr1, rfl⟩ | ⟨hr1, rfl⟩
  rotate_left
  · go_wp2_with fail
    go_ret
    exact ⟨⟨_, rfl, .inr ⟨by have := HW.out; omega, rfl⟩⟩, hB1⟩
  go_wp2_with fail
  go_ret
  exact ⟨⟨_, rfl, .inl ⟨by have := HW.out; omega, by have := HW.out; omega⟩⟩, hB1⟩
end Go.Proofs.Ytgokggnmacjafaa
