/- Parts of the proof: HoldS. -/
import Derived.BigQuiet
import Derived.Test.YtlhochahokbonaaPa47
import Derived.Test.YtlhochahokbonaaPa34
namespace Go.Proofs.Ytlhochahokbonaa
open Go Go.RowKit
set_option linter.unusedVariables false
set_option linter.unusedSimpArgs false
set_option maxRecDepth 100000 in
set_option maxHeartbeats 4000000 in
theorem l9Is_n (l : List Atm) (bs : List Bool) (HLEN : Hid (l.length = bs.length)) (n : Nat) : ∀ (f : Fm) (d : Nat) (vs : List Value) (ff : List Nat) (lv bv : Value) (lf bf : List Nat) (w : World), ndV f.cd ≤ n → Fm.shape d f = true → Fm.has l f = true → RdVs w f.cd vs ff → Rd w (.sl (l.map Atm.cd)) lv lf → Rd w (.sl (bs.map boolCd)) bv bf →
    Calls Try.prog 48 #[.agg vs.toArray, lv, bv] w fun e w' => e = .returned (.bool (Fm.holds (valA l bs) f)) ∧ Below w.heap.size w w' := by
  induction n with
  | zero =>
    intro f d vs ff lv bv lf bf w hn; have h : 0 < ndV f.cd := by rw [Fm.cd_eq]; simp [ndV, ndC]; try omega
    omega
  | succ n ih =>
  intro f d vs ff lv bv lf bf w hn hsh hha hv hl hbr
  have HN : Hid (∀ k ∈ f.kids, ndV k.cd ≤ n) := fun k hk => by have := Fm.kid_nd hk; omega
  have IH := Lib.hid ih
  clear ih
  obtain ⟨hd1, hnk, hshk⟩ := Fm.shape_parts hsh
  have hkinds := nk_kinds hnk
  have hk1 : f.kind = 2 → f.kids.length = 1 := fun h => by rw [h] at hnk; simp [Fm.nk] at hnk; omega
  have hk2 : f.kind = 3 ∨ f.kind = 4 ∨ f.kind = 5 ∨ f.kind = 6 → f.kids.length = 2 := fun h => by rcases h with h | h | h | h <;> rw [h] at hnk <;> simp [Fm.nk] at hnk <;> omega
  obtain ⟨la, lc, rfl, hc1, hc2⟩ := rd_sl_inv hl
  obtain ⟨ba, bc, rfl, hc3, hc4⟩ := rd_sl_inv hbr
  obtain ⟨a3, c3, f3, a5, c5, f5, a6, c6, f6, a7, c7, f7, a11, c11, f11, rfl, -, m0, m1, m2, m3, m4, m5, m6, m7, m8, m9⟩ := Fm.open hv
  clear hv
  have hat := Atm.close (x := f.lit.atom) m1 m2 m3 m4 m5 m6 m7 m8
  have hE := Fm.holds_eq (valA l bs) f
  have hb0 := below_alloc w (.cells #[.int .i64 f.kind, .int .i64 f.lit.atom.kind, .string f.lit.atom.a.name, .slice a3 f.lit.atom.a.kids.length c3, .string f.lit.atom.b.name, .slice a5 f.lit.atom.b.kids.length c5, .slice a6 f.lit.atom.nums.length c6, .slice a7 f.lit.atom.times.length c7, .int .i64 f.lit.atom.bound, .bool f.lit.atom.strict, .bool f.lit.no, .slice a11 f.kids.length c11] 43)
  have hp := cell_new w #[.int .i64 f.kind, .int .i64 f.lit.atom.kind, .string f.lit.atom.a.name, .slice a3 f.lit.atom.a.kids.length c3, .string f.lit.atom.b.name, .slice a5 f.lit.atom.b.kids.length c5, .slice a6 f.lit.atom.nums.length c6, .slice a7 f.lit.atom.times.length c7, .int .i64 f.lit.atom.bound, .bool f.lit.atom.strict, .bool f.lit.no, .slice a11 f.kids.length c11] 43
  have hx := hp
  have C0 := hx 0
  have C1 := hx 1
  have C2 := hx 2
  have C3 := hx 3
  have C4 := hx 4
  have C5 := hx 5
  have C6 := hx 6
  have C7 := hx 7
  have C8 := hx 8
  have C9 := hx 9
  have C10 := hx 10
  have C11 := hx 11
  simp only [List.getElem?_toArray, List.getElem?_cons_zero, List.getElem?_cons_succ] at C0 C1 C2 C3 C4 C5 C6 C7 C8 C9 C10 C11
  clear hx
  have hz0 : (w.alloc (.cells #[.int .i64 f.kind, .int .i64 f.lit.atom.kind, .string f.lit.atom.a.name, .slice a3 f.lit.atom.a.kids.length c3, .string f.lit.atom.b.name, .slice a5 f.lit.atom.b.kids.length c5, .slice a6 f.lit.atom.nums.length c6, .slice a7 f.lit.atom.times.length c7, .int .i64 f.lit.atom.bound, .bool f.lit.atom.strict, .bool f.lit.no, .slice a11 f.kids.length c11] 43)).heap.size = w.heap.size + 1 := by simp
  have hs0 : w.heap.size < (w.alloc (.cells #[.int .i64 f.kind, .int .i64 f.lit.atom.kind, .string f.lit.atom.a.name, .slice a3 f.lit.atom.a.kids.length c3, .string f.lit.atom.b.name, .slice a5 f.lit.atom.b.kids.length c5, .slice a6 f.lit.atom.nums.length c6, .slice a7 f.lit.atom.times.length c7, .int .i64 f.lit.atom.bound, .bool f.lit.atom.strict, .bool f.lit.no, .slice a11 f.kids.length c11] 43)).heap.size := by simp
  by_cases h1 : f.kind = 1
  · have t1 : (f.kind == 1) = true := by simp [h1]
    have hin := Fm.has_lit hha h1
    obtain ⟨k, hk, HK⟩ := hasA_at hin
    have hkv : k < bs.length := by have := HLEN.out; omega
    have hva := valA_k HLEN.out hin HK (first_ex l f.lit.atom) hkv
    rw [if_pos h1, hva] at hE
    have HE := Lib.hid hE
    obtain ⟨b, off, rfl, hbs, _⟩ := rd_addr hbr (by omega)
    obtain ⟨d0, _⟩ := boolCd_at hbr hkv
    have D0 := cell_keep d0 hb0
    have HL : Hid (∀ W, Below (w.alloc (.cells #[.int .i64 f.kind, .int .i64 f.lit.atom.kind, .string f.lit.atom.a.name, .slice a3 f.lit.atom.a.kids.length c3, .string f.lit.atom.b.name, .slice a5 f.lit.atom.b.kids.length c5, .slice a6 f.lit.atom.nums.length c6, .slice a7 f.lit.atom.times.length c7, .int .i64 f.lit.atom.bound, .bool f.lit.atom.strict, .bool f.lit.no, .slice a11 f.kids.length c11] 43)).heap.size (w.alloc (.cells #[.int .i64 f.kind, .int .i64 f.lit.atom.kind, .string f.lit.atom.a.name, .slice a3 f.lit.atom.a.kids.length c3, .string f.lit.atom.b.name, .slice a5 f.lit.atom.b.kids.length c5, .slice a6 f.lit.atom.nums.length c6, .slice a7 f.lit.atom.times.length c7, .int .i64 f.lit.atom.bound, .bool f.lit.atom.strict, .bool f.lit.no, .slice a11 f.kids.length c11] 43)) W → Calls Try.prog 82 #[.slice la l.length lc, .agg [.int .i64 f.lit.atom.kind, .string f.lit.atom.a.name, .slice a3 f.lit.atom.a.kids.length c3, .string f.lit.atom.b.name, .slice a5 f.lit.atom.b.kids.length c5, .slice a6 f.lit.atom.nums.length c6, .slice a7 f.lit.atom.times.length c7, .int .i64 f.lit.atom.bound, .bool f.lit.atom.strict].toArray] W (fun e w' => e = .returned (.int .i64 (k : Int)) ∧ Below W.heap.size W w')) := Lib.hid (fun W hW =>
      (l9Place_any f.lit.atom l _ _ _ _ W ((hl.below hb0).below hW) ((hat.below hb0).below hW)).mono fun e w' ⟨⟨n, h1, h2⟩, h3⟩ => ⟨by rw [h1, HK n h2], h3⟩)
    clear hE h1 hkinds hk1 hk2 hin HK hva d0 m0 m1 m2 m3 m4 m5 m6 m7 m8 m9 hat hl hbr hp
    go_enter Try.func48, Try.ntmps48
    go_wp2_with fail
    generalize hWW : w.alloc (.cells #[.int .i64 f.kind, .int .i64 f.lit.atom.kind, .string f.lit.atom.a.name, .slice a3 f.lit.atom.a.kids.length c3, .string f.lit.atom.b.name, .slice a5 f.lit.atom.b.kids.length c5, .slice a6 f.lit.atom.nums.length c6, .slice a7 f.lit.atom.times.length c7, .int .i64 f.lit.atom.bound, .bool f.lit.atom.strict, .bool f.lit.no, .slice a11 f.kids.length c11] 43) = W0 at *
    clear hWW
    have qD0 := cell_regrown D0
    have qC0 := cell_regrown C0
    have qC1 := cell_regrown C1
    have qC2 := cell_regrown C2
    have qC3 := cell_regrown C3
    have qC4 := cell_regrown C4
    have qC5 := cell_regrown C5
    have qC6 := cell_regrown C6
    have qC7 := cell_regrown C7
    have qC8 := cell_regrown C8
    have qC9 := cell_regrown C9
    have qC10 := cell_regrown C10
    have qC11 := cell_regrown C11
    clear D0 C0 C1 C2 C3 C4 C5 C6 C7 C8 C9 C10 C11
    refine wp_region_quiet_below (by kernel_rfl) (by kernel_rfl) ?_
    repeat (first | go_big_quiet_skip | quiet_step (first | (go_at_call 82; with_reducible refine Calls.regrown_of (HL.out _ (below_regrown _ _ _)))))
    refine wpQuiet_nil ?_
    intro w9 hw2
    obtain ⟨⟨dq, osq⟩, hw2⟩ := hw2
    have hb9 : Below (W0).heap.size (W0) w9 := hw2 ▸ below_regrown (W0) dq osq
    clear hw2 qD0 qC0 qC1 qC2 qC3 qC4 qC5 qC6 qC7 qC8 qC9 qC10 qC11
    go_wp2_with fail
    go_ret
    exact ⟨retB HE.out.symm, hb0.trans (hb9.mono hb0.size)⟩
  · have HSH := Lib.hid (hshk h1)
    have HHA := Lib.hid (Fm.has_kids hha h1)
    rw [if_neg h1] at hE
    have t1 : (f.kind == 1) = false := by simp [h1]
    have hlt : 0 < f.kids.length := by
      rcases hkinds with h | h | h | h | h | h
      · exact absurd h h1
      · rw [hk1 h]; omega
      · rw [hk2 (.inl h)]; omega
      · rw [hk2 (.inr (.inl h))]; omega
      · rw [hk2 (.inr (.inr (.inl h)))]; omega
      · rw [hk2 (.inr (.inr (.inr h)))]; omega
    obtain ⟨b, off, rfl, hbs, _⟩ := rd_addr m9 (by omega)
    have hbz := Nat.lt_of_lt_of_le hbs hb0.size
    obtain ⟨b3, e3, g3, b5, e5, g5, b6, e6, g6, b7, e7, g7, b11, e11, g11, d0, d1, d2, d3, d4, d5, d6, d7, d8, d9, d10, d11, n0, n1, n2, n3, n4, n5, n6, n7, n8, n9, _⟩ := Fm.at (m9.below hb0) hlt
    have hkr := Fm.close n0 n1 n2 n3 n4 n5 n6 n7 n8 n9
    simp only [Nat.zero_mul, Nat.add_zero] at d0 d1 d2 d3 d4 d5 d6 d7 d8 d9 d10 d11
    obtain ⟨v0, hv0⟩ : ∃ v0, Fm.holds (valA l bs) f.kids[0] = v0 := ⟨_, rfl⟩
    have HV0 := Lib.hid hv0
    have HG0 : Hid ((f.kids.map (Fm.holds (valA l bs))).getD 0 false = v0) := Lib.hid (by rw [← hv0]; simp [List.getD, hlt])
    rw [HG0.out] at hE
    clear hv0
    by_cases h2 : f.kind = 2
    · have t2 : (f.kind == 2) = true := by simp [h2]
      have HE : Hid (Fm.holds (valA l bs) f = !v0) := Lib.hid (by rw [hE, h2]; rfl)
      clear hE h2 hkinds hk1 hk2 h1
      go_enter Try.func48, Try.ntmps48
      go_wp2_with fail
      refine (IH.out f.kids[0] (d - 1) _ _ _ _ _ _ _ (HN.out _ (List.getElem_mem hlt)) (HSH.out _ (List.getElem_mem hlt)) (HHA.out _ (List.getElem_mem hlt)) (by exact hkr) (by exact hl.below hb0) (by exact hbr.below hb0)).mono ?_
      rintro e w1 ⟨rfl, hb1⟩
      rw [HV0.out]
      go_wp2_with fail
      go_ret
      exact ⟨retB HE.out.symm, hb0.trans (hb1.mono (by simp))⟩
    · have t2 : (f.kind == 2) = false := by simp [h2]
      have hlt1 : 1 < f.kids.length := by
        rcases hkinds with h | h | h | h | h | h
        · exact absurd h h1
        · exact absurd h h2
        · rw [hk2 (.inl h)]; omega
        · rw [hk2 (.inr (.inl h))]; omega
        · rw [hk2 (.inr (.inr (.inl h)))]; omega
        · rw [hk2 (.inr (.inr (.inr h)))]; omega
      obtain ⟨v1, hv1⟩ : ∃ v1, Fm.holds (valA l bs) f.kids[1] = v1 := ⟨_, rfl⟩
      have HV1 := Lib.hid hv1
      have HG1 : Hid ((f.kids.map (Fm.holds (valA l bs))).getD 1 false = v1) := Lib.hid (by rw [← hv1]; simp [List.getD, hlt1])
      rw [HG1.out] at hE
      clear hv1
      obtain ⟨r3, s3, z3, r5, s5, z5, r6, s6, z6, r7, s7, z7, r11, s11, z11, k0, k1, k2, k3, k4, k5, k6, k7, k8, k9, k10, k11, y0, y1, y2, y3, y4, y5, y6, y7, y8, y9, _⟩ := Fm.at (m9.below hb0) hlt1
      have hkr1 := Fm.close y0 y1 y2 y3 y4 y5 y6 y7 y8 y9
      simp only [Nat.one_mul, Nat.add_assoc, Nat.reduceAdd] at k0 k1 k2 k3 k4 k5 k6 k7 k8 k9 k10 k11
      clear hk1 hk2
      go_enter Try.func48, Try.ntmps48
      go_wp2_with fail
      refine (IH.out f.kids[0] (d - 1) _ _ _ _ _ _ _ (HN.out _ (List.getElem_mem hlt)) (HSH.out _ (List.getElem_mem hlt)) (HHA.out _ (List.getElem_mem hlt)) (by exact hkr) (by exact hl.below hb0) (by exact hbr.below hb0)).mono ?_
      rintro e w1 ⟨rfl, hb1⟩
      rw [HV0.out]
      clear d0 d1 d2 d3 d4 d5 d6 d7 d8 d9 d10 d11 C0 C1 C2 C3 C4 C5 C6 C7 C8 C9 C10 C11
      have hx := cells_later hp hs0 hb1
      have C0 := hx 0
      have C1 := hx 1
      have C2 := hx 2
      have C3 := hx 3
      have C4 := hx 4
      have C5 := hx 5
      have C6 := hx 6
      have C7 := hx 7
      have C8 := hx 8
      have C9 := hx 9
      have C10 := hx 10
      have C11 := hx 11
      simp only [List.getElem?_toArray, List.getElem?_cons_zero, List.getElem?_cons_succ] at C0 C1 C2 C3 C4 C5 C6 C7 C8 C9 C10 C11
      clear hx
      replace k0 := cell_keep k0 hb1
      replace k1 := cell_keep k1 hb1
      replace k2 := cell_keep k2 hb1
      replace k3 := cell_keep k3 hb1
      replace k4 := cell_keep k4 hb1
      replace k5 := cell_keep k5 hb1
      replace k6 := cell_keep k6 hb1
      replace k7 := cell_keep k7 hb1
      replace k8 := cell_keep k8 hb1
      replace k9 := cell_keep k9 hb1
      replace k10 := cell_keep k10 hb1
      replace k11 := cell_keep k11 hb1
      have hs1 : w.heap.size < w1.heap.size := Nat.lt_of_lt_of_le hs0 hb1.size
      have hbz1 : b < w1.heap.size := Nat.lt_of_lt_of_le hbz hb1.size
      have hb01 := hb0.trans (hb1.mono (by simp))
      go_wp2_with fail
      refine (IH.out f.kids[1] (d - 1) _ _ _ _ _ _ _ (HN.out _ (List.getElem_mem hlt1)) (HSH.out _ (List.getElem_mem hlt1)) (HHA.out _ (List.getElem_mem hlt1)) (by exact hkr1.below hb1) (by exact hl.below hb01) (by exact hbr.below hb01)).mono ?_
      rintro e w2 ⟨rfl, hb2⟩
      rw [HV1.out]
      have C0' := cell_keep C0 hb2
      clear C0 C1 C2 C3 C4 C5 C6 C7 C8 C9 C10 C11 k0 k1 k2 k3 k4 k5 k6 k7 k8 k9 k10 k11
      have hs2 : w.heap.size < w2.heap.size := Nat.lt_of_lt_of_le hs1 hb2.size
      have hb02 := hb01.trans (hb2.mono hb01.size)
      have h36 : f.kind = 3 ∨ f.kind = 4 ∨ f.kind = 5 ∨ f.kind = 6 := by omega
      clear hkinds
      rcases h36 with h3 | h3 | h3 | h3
      · have t3 : (f.kind == 3) = true := by simp [h3]
        have HE : Hid (Fm.holds (valA l bs) f = joinB 3 v0 v1) := Lib.hid (by rw [hE, h3])
        clear hE h3
        cases v0 <;> cases v1
        all_goals
          go_wp2_with fail
          go_ret
          exact ⟨retB (by rw [HE.out]; rfl), hb02⟩
      · have t3 : (f.kind == 3) = false := by simp [h3]
        have t4 : (f.kind == 4) = true := by simp [h3]
        have HE : Hid (Fm.holds (valA l bs) f = joinB 4 v0 v1) := Lib.hid (by rw [hE, h3])
        clear hE h3
        cases v0 <;> cases v1
        all_goals
          go_wp2_with fail
          go_ret
          exact ⟨retB (by rw [HE.out]; rfl), hb02⟩
      · have t3 : (f.kind == 3) = false := by simp [h3]
        have t4 : (f.kind == 4) = false := by simp [h3]
        have t5 : (f.kind == 5) = true := by simp [h3]
        have HE : Hid (Fm.holds (valA l bs) f = joinB 5 v0 v1) := Lib.hid (by rw [hE, h3])
        clear hE h3
        cases v0 <;> cases v1
        all_goals
          go_wp2_with fail
          go_ret
          exact ⟨retB (by rw [HE.out]; rfl), hb02⟩
      · have t3 : (f.kind == 3) = false := by simp [h3]
        have t4 : (f.kind == 4) = false := by simp [h3]
        have t5 : (f.kind == 5) = false := by simp [h3]
        have HE : Hid (Fm.holds (valA l bs) f = joinB 6 v0 v1) := Lib.hid (by rw [hE, h3])
        clear hE h3
        cases v0 <;> cases v1
        all_goals
          go_wp2_with fail
          go_ret
          exact ⟨retB (by rw [HE.out]; rfl), hb02⟩
set_option maxRecDepth 100000 in
set_option maxHeartbeats 2000000 in
theorem formIsS_any (f : Fm) (bs : List Bool) (vs : List Value) (ff : List Nat) (v : Value) (g : List Nat) (w : World) (hbig : wtV f.cd ≤ 1048576) (hv : RdVs w f.cd vs ff) (hx : Rd w (.sl (bs.map boolCd)) v g) (r0 r1 : Bool) (hr : isF f bs = (r0, r1)) :
    Calls Try.prog 16 #[.agg vs.toArray, v] w fun e w' => e = .returned (.tuple #[.bool r0, .bool r1]) ∧ Below w.heap.size w w' := by
  have hv0 := hv
  obtain ⟨a3, c3, f3, a5, c5, f5, a6, c6, f6, a7, c7, f7, a11, c11, f11, rfl, -, m0, m1, m2, m3, m4, m5, m6, m7, m8, m9⟩ := Fm.open hv
  clear hv
  obtain ⟨av, cv, rfl, hc1, hc2⟩ := rd_sl_inv hx
  have HX := Lib.hid hx
  clear hx
  have hln := Fm.tell_len f []
  go_enter Try.func16, Try.ntmps16
  go_wp2_with fail
  refine (l9Right_any f _ _ _ hbig (by exact hv0.below (below_alloc _ _))).mono ?_
  rintro e w1 ⟨rfl, hb1⟩
  obtain ⟨hX, hz1, hB⟩ := box1 (w := w) (wr := w1) (cs := #[.int .i64 f.kind, .int .i64 f.lit.atom.kind, .string f.lit.atom.a.name, .slice a3 f.lit.atom.a.kids.length c3, .string f.lit.atom.b.name, .slice a5 f.lit.atom.b.kids.length c5, .slice a6 f.lit.atom.nums.length c6, .slice a7 f.lit.atom.times.length c7, .int .i64 f.lit.atom.bound, .bool f.lit.atom.strict, .bool f.lit.no, .slice a11 f.kids.length c11]) (T := 43) (below_size hb1 (by simp))
  have hx := hX
  have C0 := hx 0
  have C1 := hx 1
  have C2 := hx 2
  have C3 := hx 3
  have C4 := hx 4
  have C5 := hx 5
  have C6 := hx 6
  have C7 := hx 7
  have C8 := hx 8
  have C9 := hx 9
  have C10 := hx 10
  have C11 := hx 11
  simp only [List.getElem?_toArray, List.getElem?_cons_zero, List.getElem?_cons_succ] at C0 C1 C2 C3 C4 C5 C6 C7 C8 C9 C10 C11
  clear hb1 hx
  cases hok : f.okF
  · obtain ⟨rfl, rfl⟩ : false = r0 ∧ false = r1 := by have h := isF_no (vs := bs) hok; rw [hr] at h; simpa [Prod.ext_iff, eq_comm] using h
    clear hok hr
    go_wp2_with fail
    go_ret2
    exact ⟨rfl, hB⟩
  · have hsh := Fm.okF_shape hok
    have hha := Fm.okF_has hok
    have HT := Lib.hid (Fm.okF_tell hok)
    go_wp2_with fail
    refine (l9Atoms_n _ f [] _ _ (.slice none 0 0) [] w1.heap.size _ (Nat.le_refl _) hbig (by simp; omega) (Nat.le_refl _) (Own.nil _ _ _ _) (by exact hv0.below hB) (by simp [Value.ownBlock])).mono ?_
    rintro e w2 ⟨lv, fp, rfl, hown, _, hm⟩
    have hB12 := hm.toBelow (B := w1.heap.size) (Nat.le_refl _) (by simp [Value.ownBlock])
    have hB2 := hB.trans (hB12.mono hB.size)
    rw [← HT.out] at hown
    obtain ⟨fp', hrd⟩ := hown.rd'
    obtain ⟨la, lc, rfl, _, _⟩ := hown.form
    rw [List.length_map] at hrd
    have hX2 := cells_later hX (by omega) hB12
    have hz2 := hB12.size
    rw [List.length_map]
    clear hm hown C0 C1 C2 C3 C4 C5 C6 C7 C8 C9 C10 C11 hX
    have hx := hX2
    have C0 := hx 0
    have C1 := hx 1
    have C2 := hx 2
    have C3 := hx 3
    have C4 := hx 4
    have C5 := hx 5
    have C6 := hx 6
    have C7 := hx 7
    have C8 := hx 8
    have C9 := hx 9
    have C10 := hx 10
    have C11 := hx 11
    simp only [List.getElem?_toArray, List.getElem?_cons_zero, List.getElem?_cons_succ] at C0 C1 C2 C3 C4 C5 C6 C7 C8 C9 C10 C11
    have hs0 : w.heap.size < w2.heap.size := by omega
    clear hx hX2
    by_cases hle : (Fm.add [] f).length = bs.length
    rotate_left
    · obtain ⟨rfl, rfl⟩ : false = r0 ∧ false = r1 := by have h := isF_len (f := f) (vs := bs) hle; rw [hr] at h; simpa [Prod.ext_iff, eq_comm] using h
      have tl : ((bs.length : Int) != ((Fm.add [] f).length : Int)) = true := by simp; omega
      clear hok hr
      go_wp2_with fail
      go_ret2
      exact ⟨rfl, hB2⟩
    · obtain ⟨hr0, rfl⟩ : Fm.holds (valA (Fm.add [] f) bs) f = r0 ∧ true = r1 := by have h := isF_yes hok hle; rw [hr] at h; simp only [Prod.mk.injEq] at h; exact ⟨h.1.symm, h.2.symm⟩
      have HR := Lib.hid hr0
      have tl : ((bs.length : Int) != ((Fm.add [] f).length : Int)) = false := by simp; omega
      have HLE := Lib.hid hle
      clear hok hr hr0 hle
      go_wp2_with fail
      refine (l9Is_n (Fm.add [] f) bs HLE _ f 5 _ _ _ _ _ _ _ (Nat.le_refl _) hsh hha (by exact hv0.below hB2) hrd (by exact HX.out.below hB2)).mono ?_
      rintro e w4 ⟨rfl, hb4⟩
      rw [HR.out]
      go_wp2_with fail
      go_ret2
      exact ⟨rfl, hB2.trans (hb4.mono hB2.size)⟩
end Go.Proofs.Ytlhochahokbonaa
