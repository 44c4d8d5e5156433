/- Parts of the proof: FormS AtomC FormT FormU. -/
import Derived.BigQuiet
import Derived.Test.YtbfinjiledfpcaaGreatPT13
import Derived.Test.YtbfinjiledfpcaaGreatPT7
import Derived.Test.YtbfinjiledfpcaaGreatPT8
section
namespace Go.Proofs.YtbfinjiledfpcaaGreat
open Go Go.RowKit
set_option linter.unusedVariables false
set_option linter.unusedSimpArgs false
set_option maxRecDepth 100000
set_option maxHeartbeats 16000000
theorem zfy (k : Int) (w : World) : Calls Tryz.prog 107 #[.int .i64 k] w fun e w' => e = .returned (.int .i64 (Fm.nk k)) ∧ w = w' := by
  by_cases h1 : k = 1
  · subst h1
    go_enter Tryz.func107, Tryz.ntmps107; go_wp2_with fail; go_ret; exact ⟨rfl, rfl⟩
  by_cases h2 : k = 2
  · subst h2
    go_enter Tryz.func107, Tryz.ntmps107; go_wp2_with fail; go_ret; exact ⟨rfl, rfl⟩
  by_cases h3 : k = 3
  · subst h3
    go_enter Tryz.func107, Tryz.ntmps107; go_wp2_with fail; go_ret; exact ⟨rfl, rfl⟩
  by_cases h4 : k = 4
  · subst h4
    go_enter Tryz.func107, Tryz.ntmps107; go_wp2_with fail; go_ret; exact ⟨rfl, rfl⟩
  by_cases h5 : k = 5
  · subst h5
    go_enter Tryz.func107, Tryz.ntmps107; go_wp2_with fail; go_ret; exact ⟨rfl, rfl⟩
  by_cases h6 : k = 6
  · subst h6
    go_enter Tryz.func107, Tryz.ntmps107; go_wp2_with fail; go_ret; exact ⟨rfl, rfl⟩
  have HN := zgn (show Fm.nk k = -1 by unfold Fm.nk; rw [if_neg h1, if_neg h2, if_neg h3, if_neg h4, if_neg h5, if_neg h6])
  have t1 : (k == 1) = false := by simp [h1]
  have t2 : (k == 2) = false := by simp [h2]
  have t3 : (k == 3) = false := by simp [h3]
  have t4 : (k == 4) = false := by simp [h4]
  have t5 : (k == 5) = false := by simp [h5]
  have t6 : (k == 6) = false := by simp [h6]
  clear h1 h2 h3 h4 h5 h6; go_enter Tryz.func107, Tryz.ntmps107; go_wp2_with fail; go_ret; exact ⟨retI HN.out.symm, rfl⟩
theorem zeH (x : Lt) (vs : List Value) (f : List Nat) (w : World) (hv : RdVs w x.cd vs f) : Calls Tryz.prog 120 #[.agg vs.toArray] w fun e w' => e = .returned (.bool x.bare) ∧ Below w.heap.size w w' := by
  obtain ⟨a2, c2, f2, a4, c4, f4, a5, c5, f5, a6, c6, f6, rfl, _, m0, m1, m2, m3, m4, m5, m6, m7⟩ := Lt.open hv; have hat := Atm.close m0 m1 m2 m3 m4 m5 m6 m7
  cases hno : x.no
  · have HB := zgn (show x.bare = eqV x.M.cd Atm.zero.cd by unfold Lt.bare; rw [hno]; simp)
    go_enter Tryz.func120, Tryz.ntmps120; go_wp2_with fail; refine (zdk x.M Atm.zero _ _ _ _ _ (by exact hat.below (zb _ _)) (by exact Atm.zero_rd _)).mono ?_; rintro e w1 ⟨rfl, hb⟩; go_wp2_with fail; go_ret; exact ⟨retB HB.out.symm, (zb _ _).trans (hb.mono (by simp))⟩
  · have HB := zgn (show x.bare = false by unfold Lt.bare; rw [hno]; simp)
    go_enter Tryz.func120, Tryz.ntmps120; go_wp2_with fail; go_ret; exact ⟨retB HB.out.symm, zb _ _⟩
theorem zbM (k : Int) (w : World) : Calls Tryz.prog 107 #[.int .i64 k] w fun e w' => e = .returned (.int .i64 (Fm.nk k)) ∧ Below w.heap.size w w' := (zfy k w).mono fun _ _ ⟨h, h'⟩ => ⟨h, h' ▸ zgz _ _⟩
theorem l9Shape_n (n : Nat) : ∀ (f : Fm) (deep : Int) (vs : List Value) (ff : List Nat) (w : World), ndV f.cd ≤ n → wtV f.cd ≤ 1048576 → 0 ≤ deep → deep ≤ 5 → RdVs w f.cd vs ff →
    Calls Tryz.prog 82 #[.agg vs.toArray, .int .i64 deep] w fun e w' => e = .returned (.bool (Fm.shape deep.toNat f)) ∧ Below w.heap.size w w' := by
  induction n with
  | zero =>
    intro f deep vs ff w hn; have h : 0 < ndV f.cd := by rw [Fm.cd_eq]; simp [ndV, ndC]; try omega
    omega
  | succ n ih =>
  intro f deep vs ff w hn hbig hd0 hd5 hv
  have HN : Hid (∀ k ∈ f.K, ndV k.cd ≤ n) := fun k hk => by have := Fm.kid_nd hk; omega
  have IH := zgn ih; clear ih; obtain ⟨a3, c3, f3, a5, c5, f5, a6, c6, f6, a7, c7, f7, a11, c11, f11, rfl, -, m0, m1, m2, m3, m4, m5, m6, m7, m8, m9⟩ := Fm.open hv; clear hv; have hat := Atm.close (x := f.L.M) m1 m2 m3 m4 m5 m6 m7 m8; have hli := Lt.close (x := f.L) m1 m2 m3 m4 m5 m6 m7 m8; have hw := Nat.le_of_eq (Fm.wt_eq f).symm; have hE := Fm.shape_eq deep.toNat f; have hp := zt w (yTa f a3 c3 a5 c5 a6 c6 a7 c7 a11 c11) 36
  by_cases hd : deep < 1
  · rw [if_pos (.inl (by omega))] at hE
    have HE := zgn hE; clear hE; have C0 := hp 0; have C11 := hp 11; simp only [zgd, zgb, zgc] at C0 C11; go_enter Tryz.func82, Tryz.ntmps82; go_wp2_with fail; have qC0 := cell_regrown C0; have qC11 := cell_regrown C11; clear C0 C11; refine wp_region_quiet_below (by kernel_rfl) (by kernel_rfl) ?_
    repeat (first | go_big_quiet_skip | quiet_step (first | (go_at_call 107; with_reducible refine zgr (zbM _ _))))
    refine wpQuiet_nil ?_; intro w1 hw2; obtain ⟨⟨dq, osq⟩, hw2⟩ := hw2; have hbq : Below (w.alloc (.cells (yTa f a3 c3 a5 c5 a6 c6 a7 c7 a11 c11) 36)).heap.size (w.alloc (.cells (yTa f a3 c3 a5 c5 a6 c6 a7 c7 a11 c11) 36)) w1 := hw2 ▸ below_regrown (w.alloc (.cells (yTa f a3 c3 a5 c5 a6 c6 a7 c7 a11 c11) 36)) dq osq; clear hw2 qC0 qC11; have hbx := zm (n := w.heap.size + 1) hbq (by simp); clear hbq; obtain ⟨hx, hz1, hb⟩ := box1 (w := w) (wr := w1) (cs := (yTa f a3 c3 a5 c5 a6 c6 a7 c7 a11 c11)) (T := 36) hbx; obtain ⟨C0, C1, C2, C3, C4, C5, C6, C7, C8, C9, C10, C11⟩ := yQ12 hx; simp only [zgd, zgb, zgc] at C0 C1 C2 C3 C4 C5 C6 C7 C8 C9 C10 C11; go_wp2_with fail; go_ret; exact ⟨retB HE.out.symm, hb⟩
  by_cases hk : Fm.nk f.kind = (f.K.length : Int)
  rotate_left
  · rw [if_pos (.inr hk)] at hE
    have HE := zgn hE; clear hE
    have tk : (Fm.nk f.kind != (f.K.length : Int)) = true := by simp [hk]
    clear hk; have C0 := hp 0; have C11 := hp 11; simp only [zgd, zgb, zgc] at C0 C11; go_enter Tryz.func82, Tryz.ntmps82; go_wp2_with fail; have qC0 := cell_regrown C0; have qC11 := cell_regrown C11; clear C0 C11; refine wp_region_quiet_below (by kernel_rfl) (by kernel_rfl) ?_
    repeat (first | go_big_quiet_skip | quiet_step (first | (go_at_call 107; with_reducible refine zgr (zbM _ _))))
    refine wpQuiet_nil ?_; intro w1 hw2; obtain ⟨⟨dq, osq⟩, hw2⟩ := hw2; have hbq : Below (w.alloc (.cells (yTa f a3 c3 a5 c5 a6 c6 a7 c7 a11 c11) 36)).heap.size (w.alloc (.cells (yTa f a3 c3 a5 c5 a6 c6 a7 c7 a11 c11) 36)) w1 := hw2 ▸ below_regrown (w.alloc (.cells (yTa f a3 c3 a5 c5 a6 c6 a7 c7 a11 c11) 36)) dq osq; clear hw2 qC0 qC11; have hbx := zm (n := w.heap.size + 1) hbq (by simp); clear hbq; obtain ⟨hx, hz1, hb⟩ := box1 (w := w) (wr := w1) (cs := (yTa f a3 c3 a5 c5 a6 c6 a7 c7 a11 c11)) (T := 36) hbx; obtain ⟨C0, C1, C2, C3, C4, C5, C6, C7, C8, C9, C10, C11⟩ := yQ12 hx; simp only [zgd, zgb, zgc] at C0 C1 C2 C3 C4 C5 C6 C7 C8 C9 C10 C11; go_wp2_with fail; go_ret; exact ⟨retB HE.out.symm, hb⟩
  have tk : (Fm.nk f.kind != (f.K.length : Int)) = false := by simp [hk]
  have hsm := Lt.small_of (x := f.L) (by omega)
  rw [if_neg (by rintro (h | h); · omega
                 · exact h hk)] at hE
  clear hk
  by_cases k1 : f.kind = 1
  · have t1 : (f.kind == 1) = true := by simp [k1]
    rw [if_pos k1] at hE; have HE := zgn hE; clear hE k1; have C0 := hp 0; have C11 := hp 11; simp only [zgd, zgb, zgc] at C0 C11; go_enter Tryz.func82, Tryz.ntmps82; go_wp2_with fail; have qC0 := cell_regrown C0; have qC11 := cell_regrown C11; clear C0 C11; refine wp_region_quiet_below (by kernel_rfl) (by kernel_rfl) ?_
    repeat (first | go_big_quiet_skip | quiet_step (first | (go_at_call 107; with_reducible refine zgr (zbM _ _))))
    refine wpQuiet_nil ?_; intro w1 hw2; obtain ⟨⟨dq, osq⟩, hw2⟩ := hw2; have hbq : Below (w.alloc (.cells (yTa f a3 c3 a5 c5 a6 c6 a7 c7 a11 c11) 36)).heap.size (w.alloc (.cells (yTa f a3 c3 a5 c5 a6 c6 a7 c7 a11 c11) 36)) w1 := hw2 ▸ below_regrown (w.alloc (.cells (yTa f a3 c3 a5 c5 a6 c6 a7 c7 a11 c11) 36)) dq osq; clear hw2 qC0 qC11; have hbx := zm (n := w.heap.size + 1) hbq (by simp); clear hbq; obtain ⟨hx, hz1, hb⟩ := box1 (w := w) (wr := w1) (cs := (yTa f a3 c3 a5 c5 a6 c6 a7 c7 a11 c11)) (T := 36) hbx; obtain ⟨C0, C1, C2, C3, C4, C5, C6, C7, C8, C9, C10, C11⟩ := yQ12 hx; simp only [zgd, zgb, zgc] at C0 C1 C2 C3 C4 C5 C6 C7 C8 C9 C10 C11; go_wp2_with fail; refine (zbz f.L.M _ _ _ hsm (by exact hat.below hb)).mono ?_; rintro e w2 ⟨rfl, hb2⟩; go_wp2_with fail; go_ret; exact ⟨retB HE.out.symm, hb.trans (hb2.mono hb.size)⟩
  · have t1 : (f.kind == 1) = false := by simp [k1]
    rw [if_neg k1] at hE; have HE0 := zgn hE; clear hE k1; have C0 := hp 0; have C11 := hp 11; simp only [zgd, zgb, zgc] at C0 C11; go_enter Tryz.func82, Tryz.ntmps82; go_wp2_with fail; have qC0 := cell_regrown C0; have qC11 := cell_regrown C11; clear C0 C11; refine wp_region_quiet_below (by kernel_rfl) (by kernel_rfl) ?_
    repeat (first | go_big_quiet_skip | quiet_step (first | (go_at_call 107; with_reducible refine zgr (zbM _ _))))
    refine wpQuiet_nil ?_; intro w1 hw2; obtain ⟨⟨dq, osq⟩, hw2⟩ := hw2; have hbq : Below (w.alloc (.cells (yTa f a3 c3 a5 c5 a6 c6 a7 c7 a11 c11) 36)).heap.size (w.alloc (.cells (yTa f a3 c3 a5 c5 a6 c6 a7 c7 a11 c11) 36)) w1 := hw2 ▸ below_regrown (w.alloc (.cells (yTa f a3 c3 a5 c5 a6 c6 a7 c7 a11 c11) 36)) dq osq; clear hw2 qC0 qC11; have hbx := zm (n := w.heap.size + 1) hbq (by simp); clear hbq; obtain ⟨hx, hz1, hb⟩ := box1 (w := w) (wr := w1) (cs := (yTa f a3 c3 a5 c5 a6 c6 a7 c7 a11 c11)) (T := 36) hbx; obtain ⟨C0, C1, C2, C3, C4, C5, C6, C7, C8, C9, C10, C11⟩ := yQ12 hx; simp only [zgd, zgb, zgc] at C0 C1 C2 C3 C4 C5 C6 C7 C8 C9 C10 C11; go_wp2_with fail; clear C0 C1 C2 C3 C4 C5 C6 C7 C8 C9 C10 C11 hx hz1 hb
    go_loopw [5] (fun i wr => ∃ k : Nat, k ≤ f.K.length ∧ i = .int .i64 k ∧ Hid ((f.K.take k).all (Fm.shape (deep.toNat - 1)) = true) ∧ Below (w.heap.size + 1) (w.alloc (.cells (yTa f a3 c3 a5 c5 a6 c6 a7 c7 a11 c11) 36)) wr) (fun i _ => f.K.length - (intOf i).toNat)
    case atStart => exact ⟨0, zgx _, rfl, zgn (by simp), hbx⟩
    case round =>
      clear hbx; obtain ⟨k, hkl, rfl, hall, hbx⟩ := hrel; obtain ⟨hx, hz1, hb⟩ := box1 (w := w) (wr := wr) (cs := (yTa f a3 c3 a5 c5 a6 c6 a7 c7 a11 c11)) (T := 36) hbx; obtain ⟨C0, C1, C2, C3, C4, C5, C6, C7, C8, C9, C10, C11⟩ := yQ12 hx; simp only [zgd, zgb, zgc] at C0 C1 C2 C3 C4 C5 C6 C7 C8 C9 C10 C11; have hz := hb.size
      by_cases hlt : k < f.K.length
      · obtain ⟨b, off, rfl, hbs, _⟩ := zl m9 (by omega)
        obtain ⟨b3, e3, g3, b5, e5, g5, b6, e6, g6, b7, e7, g7, b11, e11, g11, d0, d1, d2, d3, d4, d5, d6, d7, d8, d9, d10, d11, n0, n1, n2, n3, n4, n5, n6, n7, n8, n9, _⟩ := Fm.at (m9.below hb) hlt
        have hbz : b < wr.heap.size := by omega
        have hle := zu Fm.cd f.K (k + 1); rw [zC Fm.cd f.K k hlt] at hle; have HDD := zgn (show (deep - 1).toNat = deep.toNat - 1 by omega); go_wp2_with fail; refine (IH.out f.K[k] (deep - 1) _ _ _ (HN.out _ (zgh hlt)) (by omega) (by omega) (by omega) (by exact (Fm.close n0 n1 n2 n3 n4 n5 n6 n7 n8 n9))).mono ?_; rintro e w2 ⟨rfl, hb2⟩; rw [HDD.out]
        cases hs : Fm.shape (deep.toNat - 1) f.K[k]
        · have HE : Hid (Fm.shape deep.toNat f = false) := zgn (by
            rw [HE0.out, Fm.shapes_all]
            have : f.K.all (Fm.shape (deep.toNat - 1)) = false := by rw [List.all_eq_false]; exact ⟨f.K[k], zgh hlt, by simp [hs]⟩
            rw [this]; rfl)
          clear hs; go_wp2_with fail; go_ret; exact ⟨retB HE.out.symm, hb.trans (hb2.mono hz)⟩
        · have HA : Hid ((f.K.take (k + 1)).all (Fm.shape (deep.toNat - 1)) = true) := zgn (by rw [zgf hlt, List.all_append, hall.out]; simp [hs])
          clear hs; go_wp2_with fail; go_roundw
          case rel => exact ⟨k + 1, by omega, by go_num, HA, hbx.trans (hb2.mono (by omega))⟩
          case measure => simp [intOf]; omega
      · have he : f.K.take k = f.K := zgq (by omega)
        rw [he] at hall; have HE : Hid (Fm.shape deep.toNat f = f.L.bare) := zgn (by rw [HE0.out, Fm.shapes_all, hall.out]; rfl); clear he; go_wp2_with fail; refine (zeH f.L _ _ _ (by exact hli.below hb)).mono ?_; rintro e w2 ⟨rfl, hb2⟩; go_wp2_with fail; go_ret; exact ⟨retB HE.out.symm, hb.trans (hb2.mono hz)⟩
theorem l9Many_n (n : Nat) : ∀ (f : Fm) (deep : Int) (vs : List Value) (ff : List Nat) (w : World), ndV f.cd ≤ n → wtV f.cd ≤ 1048576 → 0 ≤ deep → deep ≤ 5 → RdVs w f.cd vs ff →
    Calls Tryz.prog 83 #[.agg vs.toArray, .int .i64 deep] w fun e w' => e = .returned (.int .i64 ((Fm.many deep.toNat f : Nat) : Int)) ∧ Below w.heap.size w w' := by
  induction n with
  | zero =>
    intro f deep vs ff w hn; have h : 0 < ndV f.cd := by rw [Fm.cd_eq]; simp [ndV, ndC]; try omega
    omega
  | succ n ih =>
  intro f deep vs ff w hn hbig hd0 hd5 hv
  have HN : Hid (∀ k ∈ f.K, ndV k.cd ≤ n) := fun k hk => by have := Fm.kid_nd hk; omega
  have IH := zgn ih; clear ih; obtain ⟨a3, c3, f3, a5, c5, f5, a6, c6, f6, a7, c7, f7, a11, c11, f11, rfl, -, m0, m1, m2, m3, m4, m5, m6, m7, m8, m9⟩ := Fm.open hv; clear hv; have hw := Nat.le_of_eq (Fm.wt_eq f).symm; have hE := Fm.many_eq deep.toNat f
  by_cases hd : 0 < deep
  · rw [if_pos (by omega)] at hE
    have HE := zgn hE; clear hE; go_enter Tryz.func83, Tryz.ntmps83; go_wp2_with fail
    go_loopw [5, 6] (fun nv i wr => ∃ k : Nat, k ≤ f.K.length ∧ i = .int .i64 k ∧ nv = .int .i64 ((1 + Fm.manys (deep.toNat - 1) (f.K.take k) : Nat) : Int) ∧ Below (w.heap.size + 1) (w.alloc (.cells (yTa f a3 c3 a5 c5 a6 c6 a7 c7 a11 c11) 36)) wr) (fun _ i _ => f.K.length - (intOf i).toNat)
    case atStart => exact ⟨0, zgx _, rfl, by simp [Fm.manys], zgz _ _⟩
    case round =>
      obtain ⟨k, hkl, rfl, rfl, hbx⟩ := hrel; obtain ⟨hx, hz1, hb⟩ := box1 (w := w) (wr := wr) (cs := (yTa f a3 c3 a5 c5 a6 c6 a7 c7 a11 c11)) (T := 36) hbx; obtain ⟨C0, C1, C2, C3, C4, C5, C6, C7, C8, C9, C10, C11⟩ := yQ12 hx; simp only [zgd, zgb, zgc] at C0 C1 C2 C3 C4 C5 C6 C7 C8 C9 C10 C11; have hz := hb.size; have bd1 := Fm.manys_le (f.K.take k) (deep.toNat - 1); have bd3 := zu Fm.cd f.K k; rw [← List.map_take] at bd3
      have bd4 : (f.K.take k).length ≤ f.K.length := by simp; omega
      by_cases hlt : k < f.K.length
      · obtain ⟨b, off, rfl, hbs, _⟩ := zl m9 (by omega)
        obtain ⟨b3, e3, g3, b5, e5, g5, b6, e6, g6, b7, e7, g7, b11, e11, g11, d0, d1, d2, d3, d4, d5, d6, d7, d8, d9, d10, d11, n0, n1, n2, n3, n4, n5, n6, n7, n8, n9, _⟩ := Fm.at (m9.below hb) hlt
        have hbz : b < wr.heap.size := by omega
        have hle := zu Fm.cd f.K (k + 1); rw [zC Fm.cd f.K k hlt] at hle; have bd2 := Fm.many_le f.K[k] (deep.toNat - 1); have HDD := zgn (show (deep - 1).toNat = deep.toNat - 1 by omega); go_wp2_with fail; refine (IH.out f.K[k] (deep - 1) _ _ _ (HN.out _ (zgh hlt)) (by omega) (by omega) (by omega) (by exact (Fm.close n0 n1 n2 n3 n4 n5 n6 n7 n8 n9))).mono ?_; rintro e w2 ⟨rfl, hb2⟩; rw [HDD.out]; go_wp2_with fail; go_roundw
        case rel => exact ⟨k + 1, by omega, by go_num, by rw [Fm.manys_succ _ _ _ hlt]; go_num, hbx.trans (hb2.mono (by omega))⟩
        case measure => simp [intOf]; omega
      · have he : f.K.take k = f.K := zgq (by omega)
        rw [he]; rw [he] at bd1 bd3 bd4; clear he; go_wp2_with fail; go_ret
        exact ⟨retI (by rw [HE.out]; try rfl), hb⟩
  · rw [if_neg (by omega)] at hE
    have HE := zgn hE; clear hE
    have hdz : (0 < deep) = False := by simp [hd]
    go_enter Tryz.func83, Tryz.ntmps83; go_wp2_with fail
    go_loopw [5, 6] (fun nv i wr => i = .int .i64 0 ∧ nv = .int .i64 1 ∧ Below (w.heap.size + 1) (w.alloc (.cells (yTa f a3 c3 a5 c5 a6 c6 a7 c7 a11 c11) 36)) wr) (fun _ i _ => 0)
    case atStart => exact ⟨rfl, rfl, zgz _ _⟩
    case round =>
      obtain ⟨rfl, rfl, hbx⟩ := hrel; obtain ⟨hx, hz1, hb⟩ := box1 (w := w) (wr := wr) (cs := (yTa f a3 c3 a5 c5 a6 c6 a7 c7 a11 c11)) (T := 36) hbx; obtain ⟨C0, C1, C2, C3, C4, C5, C6, C7, C8, C9, C10, C11⟩ := yQ12 hx; simp only [zgd, zgb, zgc] at C0 C1 C2 C3 C4 C5 C6 C7 C8 C9 C10 C11
      by_cases hlt : 0 < f.K.length
      · go_wp2_with fail
        go_ret
        exact ⟨retI (by rw [HE.out]; try rfl), hb⟩
      · go_wp2_with fail
        go_ret
        exact ⟨retI (by rw [HE.out]; try rfl), hb⟩
/-- Behind the region: the copy's box, its numbers still none. -/
structure CopyAt (x : Atm) (w u : World) (a2 : Option Addr) (c2 : Nat) (a4 : Option Addr) (c4 : Nat) (a5 : Option Addr) (c5 : Nat) (a6 : Option Addr) (c6 : Nat) (b : Nat) (zA : Option Addr) (cA : Nat) (zB : Option Addr) (cB : Nat) (zT : Option Addr) (cT : Nat) (fA fB fT : List Nat) : Prop where
 bel : Below w.heap.size w u
 size : w.heap.size + 1 + 1 ≤ u.heap.size
 lo : w.heap.size + 1 + 1 ≤ b
 hi : b < u.heap.size
 par : ∀ j, u.cell? ⟨w.heap.size, j, none⟩ = ((yNa x a2 c2 a4 c4 a5 c5 a6 c6) : Array Value)[j]?
 res : ∀ j, u.cell? ⟨w.heap.size + 1, j, none⟩ = (yZa : Array Value)[j]?
 rfree : ∀ j, u.frozen? ⟨w.heap.size + 1, j, none⟩ = false
 box : ∀ j, u.cell? ⟨b, j, none⟩ = ((yOa x zA cA zB cB zT cT) : Array Value)[j]?
 free : ∀ j, u.frozen? ⟨b, j, none⟩ = false
 rA : Rd u (.sl (x.a.K.map Tm.cd)) (.slice zA x.a.K.length cA) fA
 rB : Rd u (.sl (x.b.K.map Tm.cd)) (.slice zB x.b.K.length cB) fB
 rT : Rd u (.sl (x.T.map zv)) (.slice zT x.T.length cT) fT
 fresh : Fresh (w.heap.size + 1 + 1) u ((fA ++ fB) ++ fT)
 away : ∀ y ∈ (fA ++ fB) ++ fT, y ≠ b
theorem copyAt_mk {x : Atm} {w u : World} {a2 a4 a5 a6 zA zB zT : Option Addr} {c2 c4 c5 c6 b cA cB cT : Nat} {fA fB fT : List Nat} {ups : List (Nat × Value)}
  (bel : Below w.heap.size w u) (size : w.heap.size + 1 + 1 ≤ u.heap.size) (lo : w.heap.size + 1 + 1 ≤ b) (hi : b < u.heap.size) (par : ∀ j, u.cell? ⟨w.heap.size, j, none⟩ = ((yNa x a2 c2 a4 c4 a5 c5 a6 c6) : Array Value)[j]?) (res : ∀ j, u.cell? ⟨w.heap.size + 1, j, none⟩ = (yZa : Array Value)[j]?) (rfree : ∀ j, u.frozen? ⟨w.heap.size + 1, j, none⟩ = false)
  (box : ∀ j, (zi b ups u).cell? ⟨b, j, none⟩ = ((yOa x zA cA zB cB zT cT) : Array Value)[j]?) (free : ∀ j, (zi b ups u).frozen? ⟨b, j, none⟩ = false)
  (rA : Rd u (.sl (x.a.K.map Tm.cd)) (.slice zA x.a.K.length cA) fA) (rB : Rd u (.sl (x.b.K.map Tm.cd)) (.slice zB x.b.K.length cB) fB) (rT : Rd u (.sl (x.T.map zv)) (.slice zT x.T.length cT) fT)
  (fresh : Fresh (w.heap.size + 1 + 1) u ((([] ++ fA) ++ fB) ++ fT)) (away : ∀ y ∈ (([] ++ fA) ++ fB) ++ fT, y ≠ b) (hL : Loc b (b + 1) u (zi b ups u)) : CopyAt x w (zi b ups u) a2 c2 a4 c4 a5 c5 a6 c6 b zA cA zB cB zT cT fA fB fT := by
 rw [List.nil_append] at fresh away; have hs : ∀ q, q < u.heap.size → q ≠ b → (zi b ups u).heap[q]? = u.heap[q]? := fun q hq hn => hL.block q hq (by omega); have hsz := hL.size; have hal : ∀ {g : List Nat}, (∀ y ∈ g, y ∈ (fA ++ fB) ++ fT) → SameOn g u (zi b ups u) := fun hg y hy => hs y (fresh.lt y (hg y hy)) (away y (hg y hy)); refine ⟨bel.trans (hL.toBelow (by omega) (by omega)), by omega, lo, by omega, fun j => ?_, fun j => ?_, fun j => ?_, box, free, rA.same _ (hal fun y hy => by simp [hy]), rB.same _ (hal fun y hy => by simp [hy]), rT.same _ (hal fun y hy => by simp [hy]), fresh.same (hal fun y hy => hy), away⟩
 ·exact (zgv (w := u) (a := ⟨w.heap.size, j, none⟩) (hs w.heap.size (by omega) (by omega))).trans (par j)
 ·exact (zgv (w := u) (a := ⟨w.heap.size + 1, j, none⟩) (hs (w.heap.size + 1) (by omega) (by omega))).trans (res j)
 ·exact (zk (hs (w.heap.size + 1) (by omega) (by omega))).trans (rfree j)
def CpF (x : Atm) (w : World) (a2 : Option Addr) (c2 : Nat) (a4 : Option Addr) (c4 : Nat) (a5 : Option Addr) (c5 : Nat) (a6 : Option Addr) (c6 : Nat) (U : World) : Prop := U.cell? ⟨w.heap.size, 0, none⟩ = some (.int .i64 x.kind) ∧ U.cell? ⟨w.heap.size, 1, none⟩ = some (.string x.a.name) ∧ U.cell? ⟨w.heap.size, 2, none⟩ = some (.slice a2 x.a.K.length c2) ∧ U.cell? ⟨w.heap.size, 3, none⟩ = some (.string x.b.name) ∧ U.cell? ⟨w.heap.size, 4, none⟩ = some (.slice a4 x.b.K.length c4) ∧ U.cell? ⟨w.heap.size, 5, none⟩ = some (.slice a5 x.N.length c5) ∧ U.cell? ⟨w.heap.size, 6, none⟩ = some (.slice a6 x.T.length c6) ∧ U.cell? ⟨w.heap.size, 7, none⟩ = some (.int .i64 x.O) ∧ U.cell? ⟨w.heap.size, 8, none⟩ = some (.bool x.C)
theorem CpF.keep {x : Atm} {w u u' : World} {a2 a4 a5 a6 : Option Addr} {c2 c4 c5 c6 : Nat} (hF : CpF x w a2 c2 a4 c4 a5 c5 a6 c6 u) (hb : Below u.heap.size u u') : CpF x w a2 c2 a4 c4 a5 c5 a6 c6 u' :=
 ⟨za hF.1 hb, za hF.2.1 hb, za hF.2.2.1 hb, za hF.2.2.2.1 hb, za hF.2.2.2.2.1 hb, za hF.2.2.2.2.2.1 hb, za hF.2.2.2.2.2.2.1 hb, za hF.2.2.2.2.2.2.2.1 hb, za hF.2.2.2.2.2.2.2.2 hb⟩
theorem CpF.same {x : Atm} {w u u' : World} {a2 a4 a5 a6 : Option Addr} {c2 c4 c5 c6 : Nat} (hF : CpF x w a2 c2 a4 c4 a5 c5 a6 c6 u) (h : u'.heap[w.heap.size]? = u.heap[w.heap.size]?) : CpF x w a2 c2 a4 c4 a5 c5 a6 c6 u' :=
 ⟨ze h hF.1, ze h hF.2.1, ze h hF.2.2.1, ze h hF.2.2.2.1, ze h hF.2.2.2.2.1, ze h hF.2.2.2.2.2.1, ze h hF.2.2.2.2.2.2.1, ze h hF.2.2.2.2.2.2.2.1, ze h hF.2.2.2.2.2.2.2.2⟩
theorem zbB {u : World} {b : Nat} (h : ∀ j, u.cell? ⟨b, j, none⟩ = (yZa : Array Value)[j]?) : u.cell? ⟨b, 0, none⟩ = some (.int .i64 0) ∧ u.cell? ⟨b, 1, none⟩ = some (.string ⟨#[]⟩) ∧ u.cell? ⟨b, 2, none⟩ = some (.slice none 0 0) ∧ u.cell? ⟨b, 3, none⟩ = some (.string ⟨#[]⟩) ∧ u.cell? ⟨b, 4, none⟩ = some (.slice none 0 0) ∧ u.cell? ⟨b, 5, none⟩ = some (.slice none 0 0) ∧ u.cell? ⟨b, 6, none⟩ = some (.slice none 0 0) ∧ u.cell? ⟨b, 7, none⟩ = some (.int .i64 0) ∧ u.cell? ⟨b, 8, none⟩ = some (.bool false) :=
 ⟨h 0, h 1, h 2, h 3, h 4, h 5, h 6, h 7, h 8⟩
theorem zbC {u : World} {b : Nat} (h : ∀ j, u.frozen? ⟨b, j, none⟩ = false) : u.frozen? ⟨b, 0, none⟩ = false ∧ u.frozen? ⟨b, 1, none⟩ = false ∧ u.frozen? ⟨b, 2, none⟩ = false ∧ u.frozen? ⟨b, 3, none⟩ = false ∧ u.frozen? ⟨b, 4, none⟩ = false ∧ u.frozen? ⟨b, 5, none⟩ = false ∧ u.frozen? ⟨b, 6, none⟩ = false ∧ u.frozen? ⟨b, 7, none⟩ = false ∧ u.frozen? ⟨b, 8, none⟩ = false :=
 ⟨h 0, h 1, h 2, h 3, h 4, h 5, h 6, h 7, h 8⟩
theorem box17 (v : World) : Below v.heap.size v (v.alloc (.cells yZa 31)) ∧ (v.alloc (.cells yZa 31)).heap.size = v.heap.size + 1 ∧ (∀ j, (v.alloc (.cells yZa 31)).cell? ⟨v.heap.size, j, none⟩ = (yZa : Array Value)[j]?) ∧ (∀ j, (v.alloc (.cells yZa 31)).frozen? ⟨v.heap.size, j, none⟩ = false) ∧ v.heap.size < (v.alloc (.cells yZa 31)).heap.size :=
 ⟨zb _ _, by simp, zt _ _ _, zR _ _ _, by simp⟩
theorem zfz {x : Atm} {w u : World} {a2 a4 a5 a6 zA zB zT : Option Addr} {c2 c4 c5 c6 b cA cB cT : Nat} {fA fB fT : List Nat}
  (bel : Below w.heap.size w u) (size : w.heap.size + 1 + 1 ≤ u.heap.size) (lo : w.heap.size + 1 + 1 ≤ b) (hi : b < u.heap.size) (par : ∀ j, u.cell? ⟨w.heap.size, j, none⟩ = ((yNa x a2 c2 a4 c4 a5 c5 a6 c6) : Array Value)[j]?) (res : ∀ j, u.cell? ⟨w.heap.size + 1, j, none⟩ = (yZa : Array Value)[j]?) (rfree : ∀ j, u.frozen? ⟨w.heap.size + 1, j, none⟩ = false)
  (hc : ∀ j, u.cell? ⟨b, j, none⟩ = (yZa : Array Value)[j]?) (hf : ∀ j, u.frozen? ⟨b, j, none⟩ = false)
  (rA : Rd u (.sl (x.a.K.map Tm.cd)) (.slice zA x.a.K.length cA) fA) (rB : Rd u (.sl (x.b.K.map Tm.cd)) (.slice zB x.b.K.length cB) fB) (rT : Rd u (.sl (x.T.map zv)) (.slice zT x.T.length cT) fT)
  (fresh : Fresh (w.heap.size + 1 + 1) u ((([] ++ fA) ++ fB) ++ fT)) (away : ∀ y ∈ (([] ++ fA) ++ fB) ++ fT, y ≠ b) : CopyAt x w (zi b (yOp x zA cA zB cB zT cT) u) a2 c2 a4 c4 a5 c5 a6 c6 b zA cA zB cB zT cT fA fB fT :=
 copyAt_mk bel size lo hi par res rfree (zw (b := b) (yOp x zA cA zB cB zT cT) hc (by simp)) (zak (b := b) (b' := b) (yOp x zA cA zB cB zT cT) hf) rA rB rT fresh away (Loc.sets (b := b) (lo := b) (hi := b + 1) (zgo _) (Nat.lt_succ_self _) (yOp x zA cA zB cB zT cT) (Loc.refl _ _ u))
section
variable {x : Atm} {w u u' : World} {a2 a4 a5 a6 : Option Addr} {c2 c4 c5 c6 : Nat} {rs : List (CD × Value × List Nat)} {o8 o17 : Option Nat} {b : Nat}
def fpOf (rs : List (CD × Value × List Nat)) : List Nat := rs.flatMap fun r => r.2.2
theorem zaN (r : CD × Value × List Nat) : fpOf (rs ++ [r]) = fpOf rs ++ r.2.2 := by unfold fpOf; simp
/-- The state within the drawn region: what was read so far, the row of numbers begun, the box made. -/
structure CpS (x : Atm) (w : World) (a2 : Option Addr) (c2 : Nat) (a4 : Option Addr) (c4 : Nat) (a5 : Option Addr) (c5 : Nat) (a6 : Option Addr) (c6 : Nat) (u : World) (rs : List (CD × Value × List Nat)) (o8 o17 : Option Nat) : Prop where
 bel : Below w.heap.size w u
 size : w.heap.size + 1 + 1 ≤ u.heap.size
 par : ∀ j, u.cell? ⟨w.heap.size, j, none⟩ = ((yNa x a2 c2 a4 c4 a5 c5 a6 c6) : Array Value)[j]?
 res : ∀ j, u.cell? ⟨w.heap.size + 1, j, none⟩ = (yZa : Array Value)[j]?
 rfree : ∀ j, u.frozen? ⟨w.heap.size + 1, j, none⟩ = false
 rds : ∀ r ∈ rs, Rd u r.1 r.2.1 r.2.2
 fresh : Fresh (w.heap.size + 1 + 1) u (fpOf rs)
 own8 : ∀ b, o8 = some b → Own u (w.heap.size + 1 + 1) 3 1 (.slice (some ⟨b, 0, none⟩) 0 0) [] [] ∧ w.heap.size + 1 + 1 ≤ b ∧ b < u.heap.size ∧ ∀ y ∈ fpOf rs, y ≠ b
 box17 : ∀ b, o17 = some b → (∀ j, u.cell? ⟨b, j, none⟩ = (yZa : Array Value)[j]?) ∧ (∀ j, u.frozen? ⟨b, j, none⟩ = false) ∧ w.heap.size + 1 + 1 ≤ b ∧ b < u.heap.size ∧ ∀ y ∈ fpOf rs, y ≠ b
 apart : ∀ b c, o8 = some b → o17 = some c → b ≠ c
theorem CpS.below (h : CpS x w a2 c2 a4 c4 a5 c5 a6 c6 u rs o8 o17) (hb : Below u.heap.size u u') : CpS x w a2 c2 a4 c4 a5 c5 a6 c6 u' rs o8 o17 := by
 have hz := h.size
 exact ⟨h.bel.trans (hb.mono (by omega)), zgy hz hb.size, zh h.par (by omega) hb, zh h.res (by omega) hb, zK h.rfree (by omega) hb, fun r hr => (h.rds r hr).below hb, h.fresh.below hb,
  fun b e => ⟨(h.own8 b e).1.below hb, (h.own8 b e).2.1, zge (h.own8 b e).2.2.1 hb.size, (h.own8 b e).2.2.2⟩,
  fun b e => ⟨zh (h.box17 b e).1 (h.box17 b e).2.2.2.1 hb, zK (h.box17 b e).2.1 (h.box17 b e).2.2.2.1 hb, (h.box17 b e).2.2.1, zge (h.box17 b e).2.2.2.1 hb.size, (h.box17 b e).2.2.2.2⟩, h.apart⟩
theorem CpS.rd (h : CpS x w a2 c2 a4 c4 a5 c5 a6 c6 u rs o8 o17) (hb : Below u.heap.size u u') {t : CD} {v : Value} {g : List Nat} (hr : Rd u' t v g) (hg : Fresh u.heap.size u' g) : CpS x w a2 c2 a4 c4 a5 c5 a6 c6 u' (rs ++ [(t, v, g)]) o8 o17 := by
 have k := h.below hb; have hge : ∀ y ∈ g, u.heap.size ≤ y := fun y hy => (hg.2 y hy).1; refine { k with rds := fun r hr' => ?_, fresh := ?_, own8 := fun b e => ⟨(k.own8 b e).1, (k.own8 b e).2.1, (k.own8 b e).2.2.1, fun y hy => ?_⟩, box17 := fun b e => ⟨(k.box17 b e).1, (k.box17 b e).2.1, (k.box17 b e).2.2.1, (k.box17 b e).2.2.2.1, fun y hy => ?_⟩ }
 ·rcases zgg.1 hr' with h1 | h1
  ·exact k.rds r h1
  ·rw [List.mem_singleton.1 h1]; exact hr
 ·rw [zaN]; exact Fresh.app k.fresh h.fresh.lt h.size hg
 ·rw [zaN] at hy
  rcases zgg.1 hy with h1 | h1
  ·exact (h.own8 b e).2.2.2 y h1
  ·have h2 := hge y h1; have h3 := (h.own8 b e).2.2.1; omega
 ·rw [zaN] at hy
  rcases zgg.1 hy with h1 | h1
  ·exact (h.box17 b e).2.2.2.2 y h1
  ·have h2 := hge y h1; have h3 := (h.box17 b e).2.2.2.1; omega
theorem CpS.own (h : CpS x w a2 c2 a4 c4 a5 c5 a6 c6 u rs none o17) : CpS x w a2 c2 a4 c4 a5 c5 a6 c6 (u.alloc (.cells #[] 3)) rs (some u.heap.size) o17 := by
 have k := h.below (zb u (.cells #[] 3)); refine { k with own8 := fun b e => ?_, apart := fun b c e e' => ?_ }
 ·cases e; exact ⟨Own.empty u (w.heap.size + 1 + 1) 3 1 h.size, h.size, by simp, fun y hy => Nat.ne_of_lt (h.fresh.lt y hy)⟩
 ·cases e; have := (h.box17 c e').2.2.2.1; omega
theorem CpS.box (h : CpS x w a2 c2 a4 c4 a5 c5 a6 c6 u rs o8 none) : CpS x w a2 c2 a4 c4 a5 c5 a6 c6 (u.alloc (.cells yZa 31)) rs o8 (some u.heap.size) := by
 have k := h.below (zb u (.cells yZa 31)); refine { k with box17 := fun b e => ?_, apart := fun b c e e' => ?_ }
 ·cases e; exact ⟨zt u _ _, zR u _ _, h.size, by simp, fun y hy => Nat.ne_of_lt (h.fresh.lt y hy)⟩
 ·cases e'; have := (h.own8 b e).2.2.1; omega
theorem CpS.T (h : CpS x w a2 c2 a4 c4 a5 c5 a6 c6 u rs (some b) o17) {vT : Value} (hg : u.grownBy u' (some b)) (ho : Own u' (w.heap.size + 1 + 1) 3 1 vT (x.T.map zv) []) (hv : ∀ y, vT.ownBlock = some y → (some b : Option Nat) = some y ∨ u.heap.size ≤ y) :
  ∃ fT, Rd u' (.sl (x.T.map zv)) vT fT ∧ CpS x w a2 c2 a4 c4 a5 c5 a6 c6 u' (rs ++ [(.sl (x.T.map zv), vT, fT)]) none o17 := by
 obtain ⟨fT, hrT, hfT, hmT⟩ := ho.fresh (Fresh.nil _ _); obtain ⟨_, hlo, hhi, hn8⟩ := h.own8 b rfl; have hsm : ∀ q, q < u.heap.size → q ≠ b → u'.heap[q]? = u.heap[q]? := fun q hq hn => hg.block q hq (fun e => hn (zgA e)); have hz := h.size; have hzn := hg.size
 have hT2 : ∀ y ∈ fT, y = b ∨ u.heap.size ≤ y := fun y hy => by
  rcases hmT y hy with h1 | h1
  ·cases h1
  ·rcases hv y h1 with h2 | h2
   ·exact .inl (zgA h2).symm
   ·exact .inr h2
 have hlt := h.fresh.lt; have hold : SameOn (fpOf rs) u u' := fun q hq => hsm q (hlt q hq) (hn8 q hq); refine ⟨fT, hrT, zo h.bel hg (by omega) (fun q hq => by have := zgA hq; omega), by omega, fun j => ?_, fun j => ?_, fun j => ?_, fun r hr' => ?_, ?_, fun b e => (by cases e), fun c e => ?_, fun b c e => (by cases e)⟩
 ·exact (zgv (w := u) (a := ⟨w.heap.size, j, none⟩) (hsm w.heap.size (by omega) (by omega))).trans (h.par j)
 ·exact (zgv (w := u) (a := ⟨w.heap.size + 1, j, none⟩) (hsm (w.heap.size + 1) (by omega) (by omega))).trans (h.res j)
 ·exact (zk (hsm (w.heap.size + 1) (by omega) (by omega))).trans (h.rfree j)
 ·rcases zgg.1 hr' with h1 | h1
  ·exact (h.rds r h1).same _ (fun q hq => hold q (List.mem_flatMap.2 ⟨r, h1, hq⟩))
  ·rw [List.mem_singleton.1 h1]; exact hrT
 ·rw [zaN]
  refine Fresh.join (h.fresh.same hold) hfT (fun q hq hq' => ?_)
  rcases hT2 q hq' with h1 | h1
  ·exact hn8 q hq h1
  ·have := hlt q hq; omega
 ·obtain ⟨k1, k2, k3, k4, k5⟩ := h.box17 c e
  have hne : c ≠ b := fun e2 => h.apart b c rfl e e2.symm; refine ⟨fun j => (zgv (w := u) (a := ⟨c, j, none⟩) (hsm c k4 hne)).trans (k1 j), fun j => (zk (hsm c k4 hne)).trans (k2 j), k3, by omega, fun y hy => ?_⟩; rw [zaN] at hy
  rcases zgg.1 hy with h1 | h1
  ·exact k5 y h1
  ·rcases hT2 y h1 with h2 | h2
   ·rw [h2]; exact hne.symm
   ·omega
theorem CpS.F (h : CpS x w a2 c2 a4 c4 a5 c5 a6 c6 u rs o8 o17) : CpF x w a2 c2 a4 c4 a5 c5 a6 c6 u :=
 ⟨h.par 0, h.par 1, h.par 2, h.par 3, h.par 4, h.par 5, h.par 6, h.par 7, h.par 8⟩
theorem CpS.fin {zA zB zT : Option Addr} {cA cB cT : Nat} {fA fB fT : List Nat} (h : CpS x w a2 c2 a4 c4 a5 c5 a6 c6 u ((([] ++ [(.sl (x.a.K.map Tm.cd), .slice zA x.a.K.length cA, fA)]) ++ [(.sl (x.b.K.map Tm.cd), .slice zB x.b.K.length cB, fB)]) ++ [(.sl (x.T.map zv), .slice zT x.T.length cT, fT)]) o8 (some b)) :
  CopyAt x w (zi b (yOp x zA cA zB cB zT cT) u) a2 c2 a4 c4 a5 c5 a6 c6 b zA cA zB cB zT cT fA fB fT := by
 obtain ⟨k1, k2, k3, k4, k5⟩ := h.box17 b rfl; have hf := h.fresh; rw [zaN, zaN, zaN] at hf k5; exact zfz h.bel h.size k3 k4 h.par h.res h.rfree k1 k2 (h.rds (.sl (x.a.K.map Tm.cd), .slice zA x.a.K.length cA, fA) (by simp)) (h.rds (.sl (x.b.K.map Tm.cd), .slice zB x.b.K.length cB, fB) (by simp)) (h.rds (.sl (x.T.map zv), .slice zT x.T.length cT, fT) (by simp)) hf k5
end
set_option maxHeartbeats 40000000 in
theorem zdp (x : Atm) (vs : List Value) (f : List Nat) (w : World) (hbig : x.small) (hbt : x.T.length ≤ 1048576) (hv : RdVs w x.cd vs f) :
  Calls Tryz.prog 42 #[.agg vs.toArray] w (zbg x.cd w) := by
 obtain ⟨a2, c2, f2, a4, c4, f4, a5, c5, f5, a6, c6, f6, rfl, _, m0, m1, m2, m3, m4, m5, m6, m7⟩ := Atm.open hv; unfold Atm.small at hbig
 have ha : x.a.size ≤ 1000000000 := by omega
 have hb' : x.b.size ≤ 1000000000 := by omega
 have hbb : Below (w.heap.size + 1 + 1) ((w.alloc (.cells (yNa x a2 c2 a4 c4 a5 c5 a6 c6) 31)).alloc (.cells yZa 31)) ((w.alloc (.cells (yNa x a2 c2 a4 c4 a5 c5 a6 c6) 31)).alloc (.cells yZa 31)) := zgz _ _; obtain ⟨hx, hy, hz, hB⟩ := box2 hbb; have hf2 := fun j => (zJ hbb j).2; clear hbb; obtain ⟨W, hW⟩ : ∃ W, W = ((w.alloc (.cells (yNa x a2 c2 a4 c4 a5 c5 a6 c6) 31)).alloc (.cells yZa 31)) := ⟨_, rfl⟩; go_enter Tryz.func42, Tryz.ntmps42; go_wp2_with fail; rw [← hW] at hx hy hz hB hf2 ⊢; clear hW; obtain ⟨C0, C1, C2, C3, C4, C5, C6, C7, C8⟩ := yQ9 hx; simp only [zgd, zgb, zgc] at C0 C1 C2 C3 C4 C5 C6 C7 C8; have hF : (CpF x w a2 c2 a4 c4 a5 c5 a6 c6) W.drew := ⟨C0, C1, C2, C3, C4, C5, C6, C7, C8⟩; clear C0 C1 C2 C3 C4 C5 C6 C7 C8; replace hx : ∀ j, W.drew.cell? ⟨w.heap.size, j, none⟩ = ((yNa x a2 c2 a4 c4 a5 c5 a6 c6) : Array Value)[j]? := hx; replace hy : ∀ j, W.drew.cell? ⟨w.heap.size + 1, j, none⟩ = (yZa : Array Value)[j]? := hy; replace hf2 : ∀ j, W.drew.frozen? ⟨w.heap.size + 1, j, none⟩ = false := hf2; replace hz : w.heap.size + 1 + 1 ≤ W.drew.heap.size := hz; have hBc := hB.drew; clear hB; refine zcD (fun ac u => ∃ (b : Nat) (zA : Option Addr) (cA : Nat) (zB : Option Addr) (cB : Nat) (zT : Option Addr) (cT : Nat) (fA fB fT : List Nat) (u5 u6 u7 u8 u9 u10 u11 u12 u13 u14 u15 u16 u17 u18 u19 u20 u21 : Value), ac = ⟨#[.agg (yNa x a2 c2 a4 c4 a5 c5 a6 c6), .pointer (some ⟨w.heap.size, 0, none⟩), .pointer (some ⟨w.heap.size + 1, 0, none⟩), .pointer (some ⟨b, 0, none⟩), undef, u5, u6, u7, u8, u9, u10, u11, u12, u13, u14, u15, u16, u17, u18, u19, u20, u21, undef, undef, undef, undef, undef, undef, undef, undef, undef, undef, undef, undef, undef, undef, undef, undef, undef, undef, undef], []⟩ ∧ CopyAt x w u a2 c2 a4 c4 a5 c5 a6 c6 b zA cA zB cB zT cT fA fB fT) ?_ ?_
 ·intro ac u hT
  obtain ⟨b, zA, cA, zB, cB, zT, cT, fA, fB, fT, u5, u6, u7, u8, u9, u10, u11, u12, u13, u14, u15, u16, u17, u18, u19, u20, u21, rfl, st⟩ := hT; clear hF hx hy hz hf2 hBc; have ST := zgn st; have hlo := st.lo; have hhi := st.hi; have hszu := st.size; have hm5 : TmsR w x.N (.slice a5 x.N.length c5) := ⟨f5, m5⟩; have hlen := Tm.sizes_len x.N
  have hsn : Tm.sizes x.N ≤ 1100000 := by omega
  clear st m2 m4 m5 m6; go_wp2_with fail
  go_loopw [4] (fun i wr => ∃ (k : Nat) (fp : List Nat) (ov : Value), k ≤ x.N.length ∧ i = .int .i64 k ∧ Own wr u.heap.size 28 2 ov ((x.N.take k).map Tm.cd) fp ∧ Fresh u.heap.size wr fp ∧
   (∀ j, wr.cell? ⟨b, j, none⟩ = (#[.int .i64 x.kind, .string x.a.name, .slice zA x.a.K.length cA, .string x.b.name, .slice zB x.b.K.length cB, ov, .slice zT x.T.length cT, .int .i64 x.O, .bool x.C] : Array Value)[j]?) ∧ (∀ j, wr.frozen? ⟨b, j, none⟩ = false) ∧ u.heap.size ≤ wr.heap.size ∧ (∀ q, q < u.heap.size → q ≠ b → wr.heap[q]? = u.heap[q]?) ∧ Below w.heap.size w wr) (fun i _ => x.N.length - (intOf i).toNat)
  case atStart => exact ⟨0, [], .slice none 0 0, zgx _, rfl, Own.nil _ _ _ _, Fresh.nil _ _, ST.out.box, ST.out.free, zgo _, fun _ _ _ => rfl, ST.out.bel⟩
  case round =>
   obtain ⟨k, fp, ov, hkl, rfl, hown, hfr, hcb, hfb, hz, hsm, hbw⟩ := hrel; have x5 : wr.cell? ⟨w.heap.size, 5, none⟩ = some (.slice a5 x.N.length c5) := ze (hsm w.heap.size (by omega) (by omega)) (ST.out.par 5); have y5 : wr.cell? ⟨b, 5, none⟩ = some ov := hcb 5; have g5 : wr.frozen? ⟨b, 5, none⟩ = false := hfb 5
   by_cases hlt : k < x.N.length
   ·have m5w := hm5.below hbw
    obtain ⟨bk, off, rfl, hbs⟩ := m5w.addr (by omega); obtain ⟨ka, kc, c0, c1, hss, hkk⟩ := m5w.at hlt; have hkn := Tm.size_mem (zgh hlt); clear hm5 m5w; go_wp2_with fail; have tok1 : True := trivial
    go_region_law (first
     | (have _t := @hown2; refine zO zaU rfl _ _ rfl u.heap.size _ _ fp rfl (by exact hown2) ⟨w2.heap.size, 0, none⟩ 1 1 [x.N[k].cd] [.string x.N[k].name, .slice a3 x.N[k].K.length cap3] fp3 rfl rfl (by simpa using Tm.rdvs hss hr3') (by simp [Tm.cd_len]) (by exact zq _ _ _) (by exact hown.away (zgo _) hf3) (by have hl := zai Tm.cd x.N k; omega) (by have hl := zai Tm.cd x.N k; omega) (by simp; omega) ?_; intro v' w4 hown4 hg hv' hs4; obtain ⟨a4', n4', c4', rfl⟩ := hown4.form'; have hcb4 := fun q (hq : q < u.heap.size) => zbw hb3 hg (b := q) (by omega) (hown.row_ne hq); have y5' := ze (hcb4 b hhi) y5; have g5' := zp (hcb4 b hhi) g5)
     | (have _t := tok1; clear _t tok1; go_simp; go_at_call 85; refine (zF _ x.N[k] _ _ (zgo _) (by omega) (by exact (TmR.mk hss hkk).drew)).mono ?_; rintro e w2 ⟨kv3, fp3, rfl, hr3, hf3, hb3⟩; obtain ⟨a3, cap3, rfl, hg1, hg2⟩ := zaJ hr3; have hb3 := zc hb3; have hz2 := hb3.size; have hlz : b < w2.heap.size := (by omega); have hbk := hb3.block b (by omega); have y5w := ze hbk y5; have g5w := zp hbk g5; clear hbk; have hown2 := hown.below (hb3.alloc hb3.size (.cells #[.string x.N[k].name, .slice a3 x.N[k].K.length cap3] 28)); have hr3' := hr3.below (zb w2 (.cells #[.string x.N[k].name, .slice a3 x.N[k].K.length cap3] 28))))
    all_goals
     have hfr4 := ((Fresh.app (hfr.below hb3) hfr.lt hz hf3).below (zb w2 (.cells #[.string x.N[k].name, .slice a3 x.N[k].K.length cap3] 28))).same hs4; have hsz4 := hg.size; simp only [zgs] at hsz4; have hown5 := hown4.set_other hfr4 (b := b) (j := 5) (u := .slice a4' n4' c4') hhi; have hfr5 := hfr4.same (zD (a := ⟨b, 5, none⟩) (v := .slice a4' n4' c4') (hfr4.ne (by exact hhi))); have hc5 := zw (b := b) [(5, .slice a4' n4' c4')] (fun j => (zgv (w := wr) (a := ⟨b, j, none⟩) (hcb4 b hhi)).trans (hcb j)) (by simp); have hf5 := zak (b := b) (b' := b) [(5, .slice a4' n4' c4')] (fun j => (zk (hcb4 b hhi)).trans (hfb j)); have hL := Loc.sets (b := b) (lo := b) (hi := b + 1) (zgo _) (Nat.lt_succ_self _) [(5, .slice a4' n4' c4')] (Loc.refl _ _ w4); have hsm5 : ∀ q, q < u.heap.size → q ≠ b → (w4.setCell ⟨b, 5, none⟩ (.slice a4' n4' c4')).heap[q]? = u.heap[q]? := fun q hq hn => ((hL.block q (by omega) (by omega)).trans (hcb4 q hq)).trans (hsm q hq hn); have hb5 : Below w.heap.size w (w4.setCell ⟨b, 5, none⟩ (.slice a4' n4' c4')) := (zo ((hbw.trans (hb3.mono (by omega))).alloc (by omega) _) hg (by simp; omega) (fun q hq => by have := (hown.block hq).1; omega)).setCell (by simp; omega) _; have hzz := hL.size; clear hL; simp only [zi, zag, zfZ, zga] at hc5 hf5 hzz; go_wp2_with fail; go_roundw
     case rel => exact ⟨k + 1, fp ++ fp3, .slice a4' n4' c4', by omega, by go_num, by rw [zgf hlt, zgj]; simpa using hown5, hfr5, hc5, hf5, by omega, hsm5, hb5⟩
     case measure => simp [intOf]; omega
   ·have he : x.N.take k = x.N := zgq (by omega)
    rw [he] at hown; obtain ⟨fp', hr', hf', _⟩ := hown.fresh hfr; obtain ⟨oa, oc, rfl, _, _⟩ := zg hr'; have st := ST.out; have hal : SameOn ((fA ++ fB) ++ fT) u wr := fun q hq => hsm q (st.fresh.lt q hq) (st.away q hq); have hrA := st.rA.same _ (fun q hq => hal q (by simp [hq])); have hrB := st.rB.same _ (fun q hq => hal q (by simp [hq])); have hrT := st.rT.same _ (fun q hq => hal q (by simp [hq])); have hfx := (Fresh.app (st.fresh.same hal) st.fresh.lt hszu hf').perm4; have hrx := Atm.close (x := x) m0 m1 hrA m3 hrB hr' hrT m7; have yx : ∀ j, wr.cell? ⟨w.heap.size + 1, j, none⟩ = (yZa : Array Value)[j]? := fun j => (zgv (w := u) (a := ⟨w.heap.size + 1, j, none⟩) (hsm (w.heap.size + 1) (by omega) (by omega))).trans (st.res j); have fx : ∀ j, wr.frozen? ⟨w.heap.size + 1, j, none⟩ = false := fun j => (zk (hsm (w.heap.size + 1) (by omega) (by omega))).trans (st.rfree j); clear st hal hrA hrB hrT hr' hf' hown hfr hsm ST hm5 y5 g5; obtain ⟨X0, X1, X2, X3, X4, X5, X6, X7, X8⟩ := yQ9 hcb; obtain ⟨Y0, Y1, Y2, Y3, Y4, Y5, Y6, Y7, Y8⟩ := yQ9 yx; obtain ⟨Z0, Z1, Z2, Z3, Z4, Z5, Z6, Z7, Z8⟩ := yQ9 fx; simp only [zgd, zgb, zgc] at X0 Y0 X1 Y1 X2 Y2 X3 Y3 X4 Y4 X5 Y5 X6 Y6 X7 Y7 X8 Y8; have hres := zw (b := w.heap.size + 1) (yNp x zA cA zB cB oa oc zT cT) yx (by simp); obtain ⟨R0, R1, R2, R3, R4, R5, R6, R7, R8⟩ := yQ9 hres; simp only [zi, zag, zfZ, zga, zgd, zgb, zgc] at R0 R1 R2 R3 R4 R5 R6 R7 R8; clear hres fx hcb yx hfb; have hL2 := Loc.sets (b := w.heap.size + 1) (lo := w.heap.size) (hi := w.heap.size + 1 + 1) (by omega) (by omega) (yNp x zA cA zB cB oa oc zT cT) (Loc.refl _ _ wr); have hB2 := hbw.trans (hL2.toBelow (B := w.heap.size) (by omega) (zgo _)); have hr2 := hrx.same _ (hL2.same (w0 := w) hfx); have hf2x := hfx.same (hL2.same (w0 := w) hfx); simp only [zi] at hB2 hr2 hf2x; clear hL2 hbw hrx hfx; go_wp2_with fail; refine bodyPost_ret (v := .agg (yNa x zA cA zB cB oa oc zT cT)) (by simp [results, Tryz.results42, go_sem, R0, R1, R2, R3, R4, R5, R6, R7, R8]) rfl ?_; exact ⟨(yNl x zA cA zB cB oa oc zT cT), _, rfl, hr2, hf2x.mono (by omega), hB2⟩
 refine Till.start (F := CpF x w a2 c2 a4 c4 a5 c5 a6 c6) (s0 := 18) (by kernel_rfl) ?_; have hS : CpS x w a2 c2 a4 c4 a5 c5 a6 c6 W.drew [] none none := ⟨hBc, hz, hx, hy, hf2, by simp, Fresh.nil _ _, fun b e => (by cases e), fun b e => (by cases e), fun b c e => (by cases e)⟩; obtain ⟨vv, hV⟩ : ∃ v, v = W.drew := ⟨_, rfl⟩; rw [← hV] at hS hF ⊢; clear hV hx hy hz hBc hf2; refine Till.take (i := 0) (v := .pointer (some ⟨w.heap.size, 0, none⟩)) rfl (by kernel_rfl) (by kernel_rfl) (by kernel_rfl) (fun _ _ _ h => h) (by kernel_rfl) (Or.inl ⟨by rfl, fun U hU => ?_⟩) hF ?_
 ·obtain ⟨g0, g1, g2, g3, g4, g5, g6, g7, g8⟩ := hU
  go_simp
 try simp only [zgB]
 refine Till.take (i := 1) (v := .int .i64 x.kind) rfl (by kernel_rfl) (by kernel_rfl) (by kernel_rfl) (fun _ _ _ h => h) (by kernel_rfl) (Or.inl ⟨by rfl, fun U hU => ?_⟩) hF ?_
 ·obtain ⟨g0, g1, g2, g3, g4, g5, g6, g7, g8⟩ := hU
  go_simp
 try simp only [zgB]
 refine Till.take (i := 2) (v := .pointer (some ⟨w.heap.size, 1, none⟩)) rfl (by kernel_rfl) (by kernel_rfl) (by kernel_rfl) (fun _ _ _ h => h) (by kernel_rfl) (Or.inl ⟨by rfl, fun U hU => ?_⟩) hF ?_
 ·obtain ⟨g0, g1, g2, g3, g4, g5, g6, g7, g8⟩ := hU
  go_simp
 try simp only [zgB]
 refine Till.take (i := 3) (v := .agg #[.string x.a.name, .slice a2 x.a.K.length c2]) rfl (by kernel_rfl) (by kernel_rfl) (by kernel_rfl) (fun _ _ _ h => h) (by kernel_rfl) (Or.inl ⟨by rfl, fun U hU => ?_⟩) hF ?_
 ·obtain ⟨g0, g1, g2, g3, g4, g5, g6, g7, g8⟩ := hU
  go_simp
 try simp only [zgB]
 refine Till.take (i := 5) (v := .pointer (some ⟨w.heap.size, 3, none⟩)) rfl (by kernel_rfl) (by kernel_rfl) (by kernel_rfl) (fun _ _ _ h => h) (by kernel_rfl) (Or.inl ⟨by rfl, fun U hU => ?_⟩) hF ?_
 ·obtain ⟨g0, g1, g2, g3, g4, g5, g6, g7, g8⟩ := hU
  go_simp
 try simp only [zgB]
 refine Till.take (i := 6) (v := .agg #[.string x.b.name, .slice a4 x.b.K.length c4]) rfl (by kernel_rfl) (by kernel_rfl) (by kernel_rfl) (fun _ _ _ h => h) (by kernel_rfl) (Or.inl ⟨by rfl, fun U hU => ?_⟩) hF ?_
 ·obtain ⟨g0, g1, g2, g3, g4, g5, g6, g7, g8⟩ := hU
  go_simp
 try simp only [zgB]
 refine Till.take (i := 9) (v := .pointer (some ⟨w.heap.size, 6, none⟩)) rfl (by kernel_rfl) (by kernel_rfl) (by kernel_rfl) (fun _ _ _ h => h) (by kernel_rfl) (Or.inl ⟨by rfl, fun U hU => ?_⟩) hF ?_
 ·obtain ⟨g0, g1, g2, g3, g4, g5, g6, g7, g8⟩ := hU
  go_simp
 try simp only [zgB]
 refine Till.take (i := 10) (v := .slice a6 x.T.length c6) rfl (by kernel_rfl) (by kernel_rfl) (by kernel_rfl) (fun _ _ _ h => h) (by kernel_rfl) (Or.inl ⟨by rfl, fun U hU => ?_⟩) hF ?_
 ·obtain ⟨g0, g1, g2, g3, g4, g5, g6, g7, g8⟩ := hU
  go_simp
 try simp only [zgB]
 refine Till.take (i := 12) (v := .pointer (some ⟨w.heap.size, 7, none⟩)) rfl (by kernel_rfl) (by kernel_rfl) (by kernel_rfl) (fun _ _ _ h => h) (by kernel_rfl) (Or.inl ⟨by rfl, fun U hU => ?_⟩) hF ?_
 ·obtain ⟨g0, g1, g2, g3, g4, g5, g6, g7, g8⟩ := hU
  go_simp
 try simp only [zgB]
 refine Till.take (i := 13) (v := .int .i64 x.O) rfl (by kernel_rfl) (by kernel_rfl) (by kernel_rfl) (fun _ _ _ h => h) (by kernel_rfl) (Or.inl ⟨by rfl, fun U hU => ?_⟩) hF ?_
 ·obtain ⟨g0, g1, g2, g3, g4, g5, g6, g7, g8⟩ := hU
  go_simp
 try simp only [zgB]
 refine Till.take (i := 14) (v := .pointer (some ⟨w.heap.size, 8, none⟩)) rfl (by kernel_rfl) (by kernel_rfl) (by kernel_rfl) (fun _ _ _ h => h) (by kernel_rfl) (Or.inl ⟨by rfl, fun U hU => ?_⟩) hF ?_
 ·obtain ⟨g0, g1, g2, g3, g4, g5, g6, g7, g8⟩ := hU
  go_simp
 try simp only [zgB]
 refine Till.take (i := 15) (v := .bool x.C) rfl (by kernel_rfl) (by kernel_rfl) (by kernel_rfl) (fun _ _ _ h => h) (by kernel_rfl) (Or.inl ⟨by rfl, fun U hU => ?_⟩) hF ?_
 ·obtain ⟨g0, g1, g2, g3, g4, g5, g6, g7, g8⟩ := hU
  go_simp
 try simp only [zgB]
 clear hF; refine Till.three (i := 4) (j := 8) (k := 17) (by kernel_rfl) rfl rfl rfl (fun K hK => ?_) (fun K hK => ?_) (fun K hK => ?_)
 ·skip
  go_simp; go_wp2_with (go_at_call 85; refine (zF _ x.a _ _ (zgo _) ha (by exact (TmR.mk m1 ⟨f2, m2⟩).below hS.bel)).mono ?_; rintro e v0 ⟨kA, fA, rfl, hr, hf, hb⟩); obtain ⟨zA, cA, rfl, _, _⟩ := zg hr; replace hS := hS.rd hb hr hf; clear hr hf hb
  refine hK.out _ _ (fun _ => hS.F) ?_; clear hK; try simp only [zgB]
  refine Till.three (i := 7) (j := 8) (k := 17) (by kernel_rfl) rfl rfl rfl (fun K hK => ?_) (fun K hK => ?_) (fun K hK => ?_)
  ·skip
   go_simp; go_wp2_with (go_at_call 85; refine (zF _ x.b _ _ (zgo _) hb' (by exact (TmR.mk m3 ⟨f4, m4⟩).below hS.bel)).mono ?_; rintro e v1 ⟨kB, fB, rfl, hr, hf, hb⟩); obtain ⟨zB, cB, rfl, _, _⟩ := zg hr; replace hS := hS.rd hb hr hf; clear hr hf hb
   refine hK.out _ _ (fun _ => hS.F) ?_; clear hK; try simp only [zgB]
   refine Till.two (i := 8) (j := 17) (by kernel_rfl) rfl rfl (fun K hK => ?_) (fun K hK => ?_)
   ·skip
    go_simp; replace hS := hS.own; revert hS; generalize v1.alloc (.cells #[] 3) = v2; intro hS
    refine hK.out _ _ (fun _ => hS.F) ?_; clear hK; try simp only [zgB]
    refine Till.two (i := 11) (j := 17) (by kernel_rfl) rfl rfl (fun K hK => ?_) (fun K hK => ?_)
    ·skip
     have ho := hS.own8 _ rfl; refine zE zU rfl _ _ rfl (w.heap.size + 1 + 1) (.slice (some ⟨_, 0, none⟩) 0 0) [] [] rfl ho.1 (x.T.map zv) (.slice a6 x.T.length c6) f6 rfl (m6.below hS.bel) ?_ ?_ ?_ ?_ hS.size ?_
     ·simp only [List.mem_map]; rintro e ⟨t, _, rfl⟩; exact zL t
     ·intro q hq h; have h1 := m6.lt _ q hq; have h2 := ho.2.1; simp [Value.ownBlock] at h; omega
     ·simp; omega
     ·simp; omega
     intro vT v3 nfp _ ht hg hvT; try simp only [List.nil_append] at ht
     obtain rfl : nfp = [] := by obtain ⟨ys, _, h, _⟩ := ht; exact zQ x.T _ _ _ h
     obtain ⟨fT, hr, hS'⟩ := hS.T (by exact hg) ht hvT; obtain ⟨zT, cT, rfl, _, _⟩ := zg hr; clear hr ht hg hvT ho hS; have hS := hS'; clear hS'
     refine hK.out _ _ (fun _ => hS.F) ?_; clear hK; try simp only [zgB]
     refine Till.free (i := 16) (v := .agg (yOa x zA cA zB cB zT cT)) rfl (by kernel_rfl) (by kernel_rfl) (by kernel_rfl) (fun _ _ _ h => h) (by kernel_rfl) (Or.inl ⟨by rfl, fun U _ => ?_⟩) (fun _ => hS.F) ?_
     ·go_simp
     try simp only [zgB]
     refine Till.one (i := 17) (by kernel_rfl) rfl (fun K hK => ?_); go_simp; replace hS := hS.box; revert hS; generalize v3.alloc (.cells yZa 31) = v4; intro hS
     refine hK.out _ _ (fun _ => hS.F) ?_; clear hK; try simp only [zgB]
     refine Till.one (i := 18) (by kernel_rfl) rfl (fun K hK => ?_); obtain ⟨P0, P1, P2, P3, P4, P5, P6, P7, P8⟩ := zbB (hS.box17 _ rfl).1; obtain ⟨Q0, Q1, Q2, Q3, Q4, Q5, Q6, Q7, Q8⟩ := zbC (hS.box17 _ rfl).2.1; have hend := hS.fin; clear hS; simp only [zi] at hend; go_simp
     refine hK.out _ _ (fun h => absurd h (by decide)) ?_; clear hK; try simp only [zgB]
     refine Till.done (by kernel_rfl) ?_ _; exact ⟨_, _, _, _, _, _, _, _, _, _, _, _, _, _, _, _, _, _, _, _, _, _, _, _, _, _, _, rfl, hend⟩
    ·skip
     go_simp; replace hS := hS.box; revert hS; generalize v2.alloc (.cells yZa 31) = v3; intro hS
     refine hK.out _ _ (fun _ => hS.F) ?_; clear hK; try simp only [zgB]
     refine Till.one (i := 11) (by kernel_rfl) rfl (fun K hK => ?_); have ho := hS.own8 _ rfl; refine zE zU rfl _ _ rfl (w.heap.size + 1 + 1) (.slice (some ⟨_, 0, none⟩) 0 0) [] [] rfl ho.1 (x.T.map zv) (.slice a6 x.T.length c6) f6 rfl (m6.below hS.bel) ?_ ?_ ?_ ?_ hS.size ?_
     ·simp only [List.mem_map]; rintro e ⟨t, _, rfl⟩; exact zL t
     ·intro q hq h; have h1 := m6.lt _ q hq; have h2 := ho.2.1; simp [Value.ownBlock] at h; omega
     ·simp; omega
     ·simp; omega
     intro vT v4 nfp _ ht hg hvT; try simp only [List.nil_append] at ht
     obtain rfl : nfp = [] := by obtain ⟨ys, _, h, _⟩ := ht; exact zQ x.T _ _ _ h
     obtain ⟨fT, hr, hS'⟩ := hS.T (by exact hg) ht hvT; obtain ⟨zT, cT, rfl, _, _⟩ := zg hr; clear hr ht hg hvT ho hS; have hS := hS'; clear hS'
     refine hK.out _ _ (fun _ => hS.F) ?_; clear hK; try simp only [zgB]
     refine Till.free (i := 16) (v := .agg (yOa x zA cA zB cB zT cT)) rfl (by kernel_rfl) (by kernel_rfl) (by kernel_rfl) (fun _ _ _ h => h) (by kernel_rfl) (Or.inl ⟨by rfl, fun U _ => ?_⟩) (fun _ => hS.F) ?_
     ·go_simp
     try simp only [zgB]
     refine Till.one (i := 18) (by kernel_rfl) rfl (fun K hK => ?_); obtain ⟨P0, P1, P2, P3, P4, P5, P6, P7, P8⟩ := zbB (hS.box17 _ rfl).1; obtain ⟨Q0, Q1, Q2, Q3, Q4, Q5, Q6, Q7, Q8⟩ := zbC (hS.box17 _ rfl).2.1; have hend := hS.fin; clear hS; simp only [zi] at hend; go_simp
     refine hK.out _ _ (fun h => absurd h (by decide)) ?_; clear hK; try simp only [zgB]
     refine Till.done (by kernel_rfl) ?_ _; exact ⟨_, _, _, _, _, _, _, _, _, _, _, _, _, _, _, _, _, _, _, _, _, _, _, _, _, _, _, rfl, hend⟩
   ·skip
    go_simp; replace hS := hS.box; revert hS; generalize v1.alloc (.cells yZa 31) = v2; intro hS
    refine hK.out _ _ (fun _ => hS.F) ?_; clear hK; try simp only [zgB]
    refine Till.one (i := 8) (by kernel_rfl) rfl (fun K hK => ?_); go_simp; replace hS := hS.own; revert hS; generalize v2.alloc (.cells #[] 3) = v3; intro hS
    refine hK.out _ _ (fun _ => hS.F) ?_; clear hK; try simp only [zgB]
    refine Till.one (i := 11) (by kernel_rfl) rfl (fun K hK => ?_); have ho := hS.own8 _ rfl; refine zE zU rfl _ _ rfl (w.heap.size + 1 + 1) (.slice (some ⟨_, 0, none⟩) 0 0) [] [] rfl ho.1 (x.T.map zv) (.slice a6 x.T.length c6) f6 rfl (m6.below hS.bel) ?_ ?_ ?_ ?_ hS.size ?_
    ·simp only [List.mem_map]; rintro e ⟨t, _, rfl⟩; exact zL t
    ·intro q hq h; have h1 := m6.lt _ q hq; have h2 := ho.2.1; simp [Value.ownBlock] at h; omega
    ·simp; omega
    ·simp; omega
    intro vT v4 nfp _ ht hg hvT; try simp only [List.nil_append] at ht
    obtain rfl : nfp = [] := by obtain ⟨ys, _, h, _⟩ := ht; exact zQ x.T _ _ _ h
    obtain ⟨fT, hr, hS'⟩ := hS.T (by exact hg) ht hvT; obtain ⟨zT, cT, rfl, _, _⟩ := zg hr; clear hr ht hg hvT ho hS; have hS := hS'; clear hS'
    refine hK.out _ _ (fun _ => hS.F) ?_; clear hK; try simp only [zgB]
    refine Till.free (i := 16) (v := .agg (yOa x zA cA zB cB zT cT)) rfl (by kernel_rfl) (by kernel_rfl) (by kernel_rfl) (fun _ _ _ h => h) (by kernel_rfl) (Or.inl ⟨by rfl, fun U _ => ?_⟩) (fun _ => hS.F) ?_
    ·go_simp
    try simp only [zgB]
    refine Till.one (i := 18) (by kernel_rfl) rfl (fun K hK => ?_); obtain ⟨P0, P1, P2, P3, P4, P5, P6, P7, P8⟩ := zbB (hS.box17 _ rfl).1; obtain ⟨Q0, Q1, Q2, Q3, Q4, Q5, Q6, Q7, Q8⟩ := zbC (hS.box17 _ rfl).2.1; have hend := hS.fin; clear hS; simp only [zi] at hend; go_simp
    refine hK.out _ _ (fun h => absurd h (by decide)) ?_; clear hK; try simp only [zgB]
    refine Till.done (by kernel_rfl) ?_ _; exact ⟨_, _, _, _, _, _, _, _, _, _, _, _, _, _, _, _, _, _, _, _, _, _, _, _, _, _, _, rfl, hend⟩
  ·skip
   go_simp; replace hS := hS.own; revert hS; generalize v0.alloc (.cells #[] 3) = v1; intro hS
   refine hK.out _ _ (fun _ => hS.F) ?_; clear hK; try simp only [zgB]
   refine Till.two (i := 7) (j := 17) (by kernel_rfl) rfl rfl (fun K hK => ?_) (fun K hK => ?_)
   ·skip
    go_simp; go_wp2_with (go_at_call 85; refine (zF _ x.b _ _ (zgo _) hb' (by exact (TmR.mk m3 ⟨f4, m4⟩).below hS.bel)).mono ?_; rintro e v2 ⟨kB, fB, rfl, hr, hf, hb⟩); obtain ⟨zB, cB, rfl, _, _⟩ := zg hr; replace hS := hS.rd hb hr hf; clear hr hf hb
    refine hK.out _ _ (fun _ => hS.F) ?_; clear hK; try simp only [zgB]
    refine Till.two (i := 11) (j := 17) (by kernel_rfl) rfl rfl (fun K hK => ?_) (fun K hK => ?_)
    ·skip
     have ho := hS.own8 _ rfl; refine zE zU rfl _ _ rfl (w.heap.size + 1 + 1) (.slice (some ⟨_, 0, none⟩) 0 0) [] [] rfl ho.1 (x.T.map zv) (.slice a6 x.T.length c6) f6 rfl (m6.below hS.bel) ?_ ?_ ?_ ?_ hS.size ?_
     ·simp only [List.mem_map]; rintro e ⟨t, _, rfl⟩; exact zL t
     ·intro q hq h; have h1 := m6.lt _ q hq; have h2 := ho.2.1; simp [Value.ownBlock] at h; omega
     ·simp; omega
     ·simp; omega
     intro vT v3 nfp _ ht hg hvT; try simp only [List.nil_append] at ht
     obtain rfl : nfp = [] := by obtain ⟨ys, _, h, _⟩ := ht; exact zQ x.T _ _ _ h
     obtain ⟨fT, hr, hS'⟩ := hS.T (by exact hg) ht hvT; obtain ⟨zT, cT, rfl, _, _⟩ := zg hr; clear hr ht hg hvT ho hS; have hS := hS'; clear hS'
     refine hK.out _ _ (fun _ => hS.F) ?_; clear hK; try simp only [zgB]
     refine Till.free (i := 16) (v := .agg (yOa x zA cA zB cB zT cT)) rfl (by kernel_rfl) (by kernel_rfl) (by kernel_rfl) (fun _ _ _ h => h) (by kernel_rfl) (Or.inl ⟨by rfl, fun U _ => ?_⟩) (fun _ => hS.F) ?_
     ·go_simp
     try simp only [zgB]
     refine Till.one (i := 17) (by kernel_rfl) rfl (fun K hK => ?_); go_simp; replace hS := hS.box; revert hS; generalize v3.alloc (.cells yZa 31) = v4; intro hS
     refine hK.out _ _ (fun _ => hS.F) ?_; clear hK; try simp only [zgB]
     refine Till.one (i := 18) (by kernel_rfl) rfl (fun K hK => ?_); obtain ⟨P0, P1, P2, P3, P4, P5, P6, P7, P8⟩ := zbB (hS.box17 _ rfl).1; obtain ⟨Q0, Q1, Q2, Q3, Q4, Q5, Q6, Q7, Q8⟩ := zbC (hS.box17 _ rfl).2.1; have hend := hS.fin; clear hS; simp only [zi] at hend; go_simp
     refine hK.out _ _ (fun h => absurd h (by decide)) ?_; clear hK; try simp only [zgB]
     refine Till.done (by kernel_rfl) ?_ _; exact ⟨_, _, _, _, _, _, _, _, _, _, _, _, _, _, _, _, _, _, _, _, _, _, _, _, _, _, _, rfl, hend⟩
    ·skip
     go_simp; replace hS := hS.box; revert hS; generalize v2.alloc (.cells yZa 31) = v3; intro hS
     refine hK.out _ _ (fun _ => hS.F) ?_; clear hK; try simp only [zgB]
     refine Till.one (i := 11) (by kernel_rfl) rfl (fun K hK => ?_); have ho := hS.own8 _ rfl; refine zE zU rfl _ _ rfl (w.heap.size + 1 + 1) (.slice (some ⟨_, 0, none⟩) 0 0) [] [] rfl ho.1 (x.T.map zv) (.slice a6 x.T.length c6) f6 rfl (m6.below hS.bel) ?_ ?_ ?_ ?_ hS.size ?_
     ·simp only [List.mem_map]; rintro e ⟨t, _, rfl⟩; exact zL t
     ·intro q hq h; have h1 := m6.lt _ q hq; have h2 := ho.2.1; simp [Value.ownBlock] at h; omega
     ·simp; omega
     ·simp; omega
     intro vT v4 nfp _ ht hg hvT; try simp only [List.nil_append] at ht
     obtain rfl : nfp = [] := by obtain ⟨ys, _, h, _⟩ := ht; exact zQ x.T _ _ _ h
     obtain ⟨fT, hr, hS'⟩ := hS.T (by exact hg) ht hvT; obtain ⟨zT, cT, rfl, _, _⟩ := zg hr; clear hr ht hg hvT ho hS; have hS := hS'; clear hS'
     refine hK.out _ _ (fun _ => hS.F) ?_; clear hK; try simp only [zgB]
     refine Till.free (i := 16) (v := .agg (yOa x zA cA zB cB zT cT)) rfl (by kernel_rfl) (by kernel_rfl) (by kernel_rfl) (fun _ _ _ h => h) (by kernel_rfl) (Or.inl ⟨by rfl, fun U _ => ?_⟩) (fun _ => hS.F) ?_
     ·go_simp
     try simp only [zgB]
     refine Till.one (i := 18) (by kernel_rfl) rfl (fun K hK => ?_); obtain ⟨P0, P1, P2, P3, P4, P5, P6, P7, P8⟩ := zbB (hS.box17 _ rfl).1; obtain ⟨Q0, Q1, Q2, Q3, Q4, Q5, Q6, Q7, Q8⟩ := zbC (hS.box17 _ rfl).2.1; have hend := hS.fin; clear hS; simp only [zi] at hend; go_simp
     refine hK.out _ _ (fun h => absurd h (by decide)) ?_; clear hK; try simp only [zgB]
     refine Till.done (by kernel_rfl) ?_ _; exact ⟨_, _, _, _, _, _, _, _, _, _, _, _, _, _, _, _, _, _, _, _, _, _, _, _, _, _, _, rfl, hend⟩
   ·skip
    go_simp; replace hS := hS.box; revert hS; generalize v1.alloc (.cells yZa 31) = v2; intro hS
    refine hK.out _ _ (fun _ => hS.F) ?_; clear hK; try simp only [zgB]
    refine Till.one (i := 7) (by kernel_rfl) rfl (fun K hK => ?_); go_simp; go_wp2_with (go_at_call 85; refine (zF _ x.b _ _ (zgo _) hb' (by exact (TmR.mk m3 ⟨f4, m4⟩).below hS.bel)).mono ?_; rintro e v3 ⟨kB, fB, rfl, hr, hf, hb⟩); obtain ⟨zB, cB, rfl, _, _⟩ := zg hr; replace hS := hS.rd hb hr hf; clear hr hf hb
    refine hK.out _ _ (fun _ => hS.F) ?_; clear hK; try simp only [zgB]
    refine Till.one (i := 11) (by kernel_rfl) rfl (fun K hK => ?_); have ho := hS.own8 _ rfl; refine zE zU rfl _ _ rfl (w.heap.size + 1 + 1) (.slice (some ⟨_, 0, none⟩) 0 0) [] [] rfl ho.1 (x.T.map zv) (.slice a6 x.T.length c6) f6 rfl (m6.below hS.bel) ?_ ?_ ?_ ?_ hS.size ?_
    ·simp only [List.mem_map]; rintro e ⟨t, _, rfl⟩; exact zL t
    ·intro q hq h; have h1 := m6.lt _ q hq; have h2 := ho.2.1; simp [Value.ownBlock] at h; omega
    ·simp; omega
    ·simp; omega
    intro vT v4 nfp _ ht hg hvT; try simp only [List.nil_append] at ht
    obtain rfl : nfp = [] := by obtain ⟨ys, _, h, _⟩ := ht; exact zQ x.T _ _ _ h
    obtain ⟨fT, hr, hS'⟩ := hS.T (by exact hg) ht hvT; obtain ⟨zT, cT, rfl, _, _⟩ := zg hr; clear hr ht hg hvT ho hS; have hS := hS'; clear hS'
    refine hK.out _ _ (fun _ => hS.F) ?_; clear hK; try simp only [zgB]
    refine Till.free (i := 16) (v := .agg (yOa x zA cA zB cB zT cT)) rfl (by kernel_rfl) (by kernel_rfl) (by kernel_rfl) (fun _ _ _ h => h) (by kernel_rfl) (Or.inl ⟨by rfl, fun U _ => ?_⟩) (fun _ => hS.F) ?_
    ·go_simp
    try simp only [zgB]
    refine Till.one (i := 18) (by kernel_rfl) rfl (fun K hK => ?_); obtain ⟨P0, P1, P2, P3, P4, P5, P6, P7, P8⟩ := zbB (hS.box17 _ rfl).1; obtain ⟨Q0, Q1, Q2, Q3, Q4, Q5, Q6, Q7, Q8⟩ := zbC (hS.box17 _ rfl).2.1; have hend := hS.fin; clear hS; simp only [zi] at hend; go_simp
    refine hK.out _ _ (fun h => absurd h (by decide)) ?_; clear hK; try simp only [zgB]
    refine Till.done (by kernel_rfl) ?_ _; exact ⟨_, _, _, _, _, _, _, _, _, _, _, _, _, _, _, _, _, _, _, _, _, _, _, _, _, _, _, rfl, hend⟩
  ·skip
   go_simp; replace hS := hS.box; revert hS; generalize v0.alloc (.cells yZa 31) = v1; intro hS
   refine hK.out _ _ (fun _ => hS.F) ?_; clear hK; try simp only [zgB]
   refine Till.two (i := 7) (j := 8) (by kernel_rfl) rfl rfl (fun K hK => ?_) (fun K hK => ?_)
   ·skip
    go_simp; go_wp2_with (go_at_call 85; refine (zF _ x.b _ _ (zgo _) hb' (by exact (TmR.mk m3 ⟨f4, m4⟩).below hS.bel)).mono ?_; rintro e v2 ⟨kB, fB, rfl, hr, hf, hb⟩); obtain ⟨zB, cB, rfl, _, _⟩ := zg hr; replace hS := hS.rd hb hr hf; clear hr hf hb
    refine hK.out _ _ (fun _ => hS.F) ?_; clear hK; try simp only [zgB]
    refine Till.one (i := 8) (by kernel_rfl) rfl (fun K hK => ?_); go_simp; replace hS := hS.own; revert hS; generalize v2.alloc (.cells #[] 3) = v3; intro hS
    refine hK.out _ _ (fun _ => hS.F) ?_; clear hK; try simp only [zgB]
    refine Till.one (i := 11) (by kernel_rfl) rfl (fun K hK => ?_); have ho := hS.own8 _ rfl; refine zE zU rfl _ _ rfl (w.heap.size + 1 + 1) (.slice (some ⟨_, 0, none⟩) 0 0) [] [] rfl ho.1 (x.T.map zv) (.slice a6 x.T.length c6) f6 rfl (m6.below hS.bel) ?_ ?_ ?_ ?_ hS.size ?_
    ·simp only [List.mem_map]; rintro e ⟨t, _, rfl⟩; exact zL t
    ·intro q hq h; have h1 := m6.lt _ q hq; have h2 := ho.2.1; simp [Value.ownBlock] at h; omega
    ·simp; omega
    ·simp; omega
    intro vT v4 nfp _ ht hg hvT; try simp only [List.nil_append] at ht
    obtain rfl : nfp = [] := by obtain ⟨ys, _, h, _⟩ := ht; exact zQ x.T _ _ _ h
    obtain ⟨fT, hr, hS'⟩ := hS.T (by exact hg) ht hvT; obtain ⟨zT, cT, rfl, _, _⟩ := zg hr; clear hr ht hg hvT ho hS; have hS := hS'; clear hS'
    refine hK.out _ _ (fun _ => hS.F) ?_; clear hK; try simp only [zgB]
    refine Till.free (i := 16) (v := .agg (yOa x zA cA zB cB zT cT)) rfl (by kernel_rfl) (by kernel_rfl) (by kernel_rfl) (fun _ _ _ h => h) (by kernel_rfl) (Or.inl ⟨by rfl, fun U _ => ?_⟩) (fun _ => hS.F) ?_
    ·go_simp
    try simp only [zgB]
    refine Till.one (i := 18) (by kernel_rfl) rfl (fun K hK => ?_); obtain ⟨P0, P1, P2, P3, P4, P5, P6, P7, P8⟩ := zbB (hS.box17 _ rfl).1; obtain ⟨Q0, Q1, Q2, Q3, Q4, Q5, Q6, Q7, Q8⟩ := zbC (hS.box17 _ rfl).2.1; have hend := hS.fin; clear hS; simp only [zi] at hend; go_simp
    refine hK.out _ _ (fun h => absurd h (by decide)) ?_; clear hK; try simp only [zgB]
    refine Till.done (by kernel_rfl) ?_ _; exact ⟨_, _, _, _, _, _, _, _, _, _, _, _, _, _, _, _, _, _, _, _, _, _, _, _, _, _, _, rfl, hend⟩
   ·skip
    go_simp; replace hS := hS.own; revert hS; generalize v1.alloc (.cells #[] 3) = v2; intro hS
    refine hK.out _ _ (fun _ => hS.F) ?_; clear hK; try simp only [zgB]
    refine Till.one (i := 7) (by kernel_rfl) rfl (fun K hK => ?_); go_simp; go_wp2_with (go_at_call 85; refine (zF _ x.b _ _ (zgo _) hb' (by exact (TmR.mk m3 ⟨f4, m4⟩).below hS.bel)).mono ?_; rintro e v3 ⟨kB, fB, rfl, hr, hf, hb⟩); obtain ⟨zB, cB, rfl, _, _⟩ := zg hr; replace hS := hS.rd hb hr hf; clear hr hf hb
    refine hK.out _ _ (fun _ => hS.F) ?_; clear hK; try simp only [zgB]
    refine Till.one (i := 11) (by kernel_rfl) rfl (fun K hK => ?_); have ho := hS.own8 _ rfl; refine zE zU rfl _ _ rfl (w.heap.size + 1 + 1) (.slice (some ⟨_, 0, none⟩) 0 0) [] [] rfl ho.1 (x.T.map zv) (.slice a6 x.T.length c6) f6 rfl (m6.below hS.bel) ?_ ?_ ?_ ?_ hS.size ?_
    ·simp only [List.mem_map]; rintro e ⟨t, _, rfl⟩; exact zL t
    ·intro q hq h; have h1 := m6.lt _ q hq; have h2 := ho.2.1; simp [Value.ownBlock] at h; omega
    ·simp; omega
    ·simp; omega
    intro vT v4 nfp _ ht hg hvT; try simp only [List.nil_append] at ht
    obtain rfl : nfp = [] := by obtain ⟨ys, _, h, _⟩ := ht; exact zQ x.T _ _ _ h
    obtain ⟨fT, hr, hS'⟩ := hS.T (by exact hg) ht hvT; obtain ⟨zT, cT, rfl, _, _⟩ := zg hr; clear hr ht hg hvT ho hS; have hS := hS'; clear hS'
    refine hK.out _ _ (fun _ => hS.F) ?_; clear hK; try simp only [zgB]
    refine Till.free (i := 16) (v := .agg (yOa x zA cA zB cB zT cT)) rfl (by kernel_rfl) (by kernel_rfl) (by kernel_rfl) (fun _ _ _ h => h) (by kernel_rfl) (Or.inl ⟨by rfl, fun U _ => ?_⟩) (fun _ => hS.F) ?_
    ·go_simp
    try simp only [zgB]
    refine Till.one (i := 18) (by kernel_rfl) rfl (fun K hK => ?_); obtain ⟨P0, P1, P2, P3, P4, P5, P6, P7, P8⟩ := zbB (hS.box17 _ rfl).1; obtain ⟨Q0, Q1, Q2, Q3, Q4, Q5, Q6, Q7, Q8⟩ := zbC (hS.box17 _ rfl).2.1; have hend := hS.fin; clear hS; simp only [zi] at hend; go_simp
    refine hK.out _ _ (fun h => absurd h (by decide)) ?_; clear hK; try simp only [zgB]
    refine Till.done (by kernel_rfl) ?_ _; exact ⟨_, _, _, _, _, _, _, _, _, _, _, _, _, _, _, _, _, _, _, _, _, _, _, _, _, _, _, rfl, hend⟩
 ·skip
  go_simp; replace hS := hS.own; revert hS; generalize vv.alloc (.cells #[] 3) = v0; intro hS
  refine hK.out _ _ (fun _ => hS.F) ?_; clear hK; try simp only [zgB]
  refine Till.two (i := 4) (j := 17) (by kernel_rfl) rfl rfl (fun K hK => ?_) (fun K hK => ?_)
  ·skip
   go_simp; go_wp2_with (go_at_call 85; refine (zF _ x.a _ _ (zgo _) ha (by exact (TmR.mk m1 ⟨f2, m2⟩).below hS.bel)).mono ?_; rintro e v1 ⟨kA, fA, rfl, hr, hf, hb⟩); obtain ⟨zA, cA, rfl, _, _⟩ := zg hr; replace hS := hS.rd hb hr hf; clear hr hf hb
   refine hK.out _ _ (fun _ => hS.F) ?_; clear hK; try simp only [zgB]
   refine Till.two (i := 7) (j := 17) (by kernel_rfl) rfl rfl (fun K hK => ?_) (fun K hK => ?_)
   ·skip
    go_simp; go_wp2_with (go_at_call 85; refine (zF _ x.b _ _ (zgo _) hb' (by exact (TmR.mk m3 ⟨f4, m4⟩).below hS.bel)).mono ?_; rintro e v2 ⟨kB, fB, rfl, hr, hf, hb⟩); obtain ⟨zB, cB, rfl, _, _⟩ := zg hr; replace hS := hS.rd hb hr hf; clear hr hf hb
    refine hK.out _ _ (fun _ => hS.F) ?_; clear hK; try simp only [zgB]
    refine Till.two (i := 11) (j := 17) (by kernel_rfl) rfl rfl (fun K hK => ?_) (fun K hK => ?_)
    ·skip
     have ho := hS.own8 _ rfl; refine zE zU rfl _ _ rfl (w.heap.size + 1 + 1) (.slice (some ⟨_, 0, none⟩) 0 0) [] [] rfl ho.1 (x.T.map zv) (.slice a6 x.T.length c6) f6 rfl (m6.below hS.bel) ?_ ?_ ?_ ?_ hS.size ?_
     ·simp only [List.mem_map]; rintro e ⟨t, _, rfl⟩; exact zL t
     ·intro q hq h; have h1 := m6.lt _ q hq; have h2 := ho.2.1; simp [Value.ownBlock] at h; omega
     ·simp; omega
     ·simp; omega
     intro vT v3 nfp _ ht hg hvT; try simp only [List.nil_append] at ht
     obtain rfl : nfp = [] := by obtain ⟨ys, _, h, _⟩ := ht; exact zQ x.T _ _ _ h
     obtain ⟨fT, hr, hS'⟩ := hS.T (by exact hg) ht hvT; obtain ⟨zT, cT, rfl, _, _⟩ := zg hr; clear hr ht hg hvT ho hS; have hS := hS'; clear hS'
     refine hK.out _ _ (fun _ => hS.F) ?_; clear hK; try simp only [zgB]
     refine Till.free (i := 16) (v := .agg (yOa x zA cA zB cB zT cT)) rfl (by kernel_rfl) (by kernel_rfl) (by kernel_rfl) (fun _ _ _ h => h) (by kernel_rfl) (Or.inl ⟨by rfl, fun U _ => ?_⟩) (fun _ => hS.F) ?_
     ·go_simp
     try simp only [zgB]
     refine Till.one (i := 17) (by kernel_rfl) rfl (fun K hK => ?_); go_simp; replace hS := hS.box; revert hS; generalize v3.alloc (.cells yZa 31) = v4; intro hS
     refine hK.out _ _ (fun _ => hS.F) ?_; clear hK; try simp only [zgB]
     refine Till.one (i := 18) (by kernel_rfl) rfl (fun K hK => ?_); obtain ⟨P0, P1, P2, P3, P4, P5, P6, P7, P8⟩ := zbB (hS.box17 _ rfl).1; obtain ⟨Q0, Q1, Q2, Q3, Q4, Q5, Q6, Q7, Q8⟩ := zbC (hS.box17 _ rfl).2.1; have hend := hS.fin; clear hS; simp only [zi] at hend; go_simp
     refine hK.out _ _ (fun h => absurd h (by decide)) ?_; clear hK; try simp only [zgB]
     refine Till.done (by kernel_rfl) ?_ _; exact ⟨_, _, _, _, _, _, _, _, _, _, _, _, _, _, _, _, _, _, _, _, _, _, _, _, _, _, _, rfl, hend⟩
    ·skip
     go_simp; replace hS := hS.box; revert hS; generalize v2.alloc (.cells yZa 31) = v3; intro hS
     refine hK.out _ _ (fun _ => hS.F) ?_; clear hK; try simp only [zgB]
     refine Till.one (i := 11) (by kernel_rfl) rfl (fun K hK => ?_); have ho := hS.own8 _ rfl; refine zE zU rfl _ _ rfl (w.heap.size + 1 + 1) (.slice (some ⟨_, 0, none⟩) 0 0) [] [] rfl ho.1 (x.T.map zv) (.slice a6 x.T.length c6) f6 rfl (m6.below hS.bel) ?_ ?_ ?_ ?_ hS.size ?_
     ·simp only [List.mem_map]; rintro e ⟨t, _, rfl⟩; exact zL t
     ·intro q hq h; have h1 := m6.lt _ q hq; have h2 := ho.2.1; simp [Value.ownBlock] at h; omega
     ·simp; omega
     ·simp; omega
     intro vT v4 nfp _ ht hg hvT; try simp only [List.nil_append] at ht
     obtain rfl : nfp = [] := by obtain ⟨ys, _, h, _⟩ := ht; exact zQ x.T _ _ _ h
     obtain ⟨fT, hr, hS'⟩ := hS.T (by exact hg) ht hvT; obtain ⟨zT, cT, rfl, _, _⟩ := zg hr; clear hr ht hg hvT ho hS; have hS := hS'; clear hS'
     refine hK.out _ _ (fun _ => hS.F) ?_; clear hK; try simp only [zgB]
     refine Till.free (i := 16) (v := .agg (yOa x zA cA zB cB zT cT)) rfl (by kernel_rfl) (by kernel_rfl) (by kernel_rfl) (fun _ _ _ h => h) (by kernel_rfl) (Or.inl ⟨by rfl, fun U _ => ?_⟩) (fun _ => hS.F) ?_
     ·go_simp
     try simp only [zgB]
     refine Till.one (i := 18) (by kernel_rfl) rfl (fun K hK => ?_); obtain ⟨P0, P1, P2, P3, P4, P5, P6, P7, P8⟩ := zbB (hS.box17 _ rfl).1; obtain ⟨Q0, Q1, Q2, Q3, Q4, Q5, Q6, Q7, Q8⟩ := zbC (hS.box17 _ rfl).2.1; have hend := hS.fin; clear hS; simp only [zi] at hend; go_simp
     refine hK.out _ _ (fun h => absurd h (by decide)) ?_; clear hK; try simp only [zgB]
     refine Till.done (by kernel_rfl) ?_ _; exact ⟨_, _, _, _, _, _, _, _, _, _, _, _, _, _, _, _, _, _, _, _, _, _, _, _, _, _, _, rfl, hend⟩
   ·skip
    go_simp; replace hS := hS.box; revert hS; generalize v1.alloc (.cells yZa 31) = v2; intro hS
    refine hK.out _ _ (fun _ => hS.F) ?_; clear hK; try simp only [zgB]
    refine Till.one (i := 7) (by kernel_rfl) rfl (fun K hK => ?_); go_simp; go_wp2_with (go_at_call 85; refine (zF _ x.b _ _ (zgo _) hb' (by exact (TmR.mk m3 ⟨f4, m4⟩).below hS.bel)).mono ?_; rintro e v3 ⟨kB, fB, rfl, hr, hf, hb⟩); obtain ⟨zB, cB, rfl, _, _⟩ := zg hr; replace hS := hS.rd hb hr hf; clear hr hf hb
    refine hK.out _ _ (fun _ => hS.F) ?_; clear hK; try simp only [zgB]
    refine Till.one (i := 11) (by kernel_rfl) rfl (fun K hK => ?_); have ho := hS.own8 _ rfl; refine zE zU rfl _ _ rfl (w.heap.size + 1 + 1) (.slice (some ⟨_, 0, none⟩) 0 0) [] [] rfl ho.1 (x.T.map zv) (.slice a6 x.T.length c6) f6 rfl (m6.below hS.bel) ?_ ?_ ?_ ?_ hS.size ?_
    ·simp only [List.mem_map]; rintro e ⟨t, _, rfl⟩; exact zL t
    ·intro q hq h; have h1 := m6.lt _ q hq; have h2 := ho.2.1; simp [Value.ownBlock] at h; omega
    ·simp; omega
    ·simp; omega
    intro vT v4 nfp _ ht hg hvT; try simp only [List.nil_append] at ht
    obtain rfl : nfp = [] := by obtain ⟨ys, _, h, _⟩ := ht; exact zQ x.T _ _ _ h
    obtain ⟨fT, hr, hS'⟩ := hS.T (by exact hg) ht hvT; obtain ⟨zT, cT, rfl, _, _⟩ := zg hr; clear hr ht hg hvT ho hS; have hS := hS'; clear hS'
    refine hK.out _ _ (fun _ => hS.F) ?_; clear hK; try simp only [zgB]
    refine Till.free (i := 16) (v := .agg (yOa x zA cA zB cB zT cT)) rfl (by kernel_rfl) (by kernel_rfl) (by kernel_rfl) (fun _ _ _ h => h) (by kernel_rfl) (Or.inl ⟨by rfl, fun U _ => ?_⟩) (fun _ => hS.F) ?_
    ·go_simp
    try simp only [zgB]
    refine Till.one (i := 18) (by kernel_rfl) rfl (fun K hK => ?_); obtain ⟨P0, P1, P2, P3, P4, P5, P6, P7, P8⟩ := zbB (hS.box17 _ rfl).1; obtain ⟨Q0, Q1, Q2, Q3, Q4, Q5, Q6, Q7, Q8⟩ := zbC (hS.box17 _ rfl).2.1; have hend := hS.fin; clear hS; simp only [zi] at hend; go_simp
    refine hK.out _ _ (fun h => absurd h (by decide)) ?_; clear hK; try simp only [zgB]
    refine Till.done (by kernel_rfl) ?_ _; exact ⟨_, _, _, _, _, _, _, _, _, _, _, _, _, _, _, _, _, _, _, _, _, _, _, _, _, _, _, rfl, hend⟩
  ·skip
   go_simp; replace hS := hS.box; revert hS; generalize v0.alloc (.cells yZa 31) = v1; intro hS
   refine hK.out _ _ (fun _ => hS.F) ?_; clear hK; try simp only [zgB]
   refine Till.one (i := 4) (by kernel_rfl) rfl (fun K hK => ?_); go_simp; go_wp2_with (go_at_call 85; refine (zF _ x.a _ _ (zgo _) ha (by exact (TmR.mk m1 ⟨f2, m2⟩).below hS.bel)).mono ?_; rintro e v2 ⟨kA, fA, rfl, hr, hf, hb⟩); obtain ⟨zA, cA, rfl, _, _⟩ := zg hr; replace hS := hS.rd hb hr hf; clear hr hf hb
   refine hK.out _ _ (fun _ => hS.F) ?_; clear hK; try simp only [zgB]
   refine Till.one (i := 7) (by kernel_rfl) rfl (fun K hK => ?_); go_simp; go_wp2_with (go_at_call 85; refine (zF _ x.b _ _ (zgo _) hb' (by exact (TmR.mk m3 ⟨f4, m4⟩).below hS.bel)).mono ?_; rintro e v3 ⟨kB, fB, rfl, hr, hf, hb⟩); obtain ⟨zB, cB, rfl, _, _⟩ := zg hr; replace hS := hS.rd hb hr hf; clear hr hf hb
   refine hK.out _ _ (fun _ => hS.F) ?_; clear hK; try simp only [zgB]
   refine Till.one (i := 11) (by kernel_rfl) rfl (fun K hK => ?_); have ho := hS.own8 _ rfl; refine zE zU rfl _ _ rfl (w.heap.size + 1 + 1) (.slice (some ⟨_, 0, none⟩) 0 0) [] [] rfl ho.1 (x.T.map zv) (.slice a6 x.T.length c6) f6 rfl (m6.below hS.bel) ?_ ?_ ?_ ?_ hS.size ?_
   ·simp only [List.mem_map]; rintro e ⟨t, _, rfl⟩; exact zL t
   ·intro q hq h; have h1 := m6.lt _ q hq; have h2 := ho.2.1; simp [Value.ownBlock] at h; omega
   ·simp; omega
   ·simp; omega
   intro vT v4 nfp _ ht hg hvT; try simp only [List.nil_append] at ht
   obtain rfl : nfp = [] := by obtain ⟨ys, _, h, _⟩ := ht; exact zQ x.T _ _ _ h
   obtain ⟨fT, hr, hS'⟩ := hS.T (by exact hg) ht hvT; obtain ⟨zT, cT, rfl, _, _⟩ := zg hr; clear hr ht hg hvT ho hS; have hS := hS'; clear hS'
   refine hK.out _ _ (fun _ => hS.F) ?_; clear hK; try simp only [zgB]
   refine Till.free (i := 16) (v := .agg (yOa x zA cA zB cB zT cT)) rfl (by kernel_rfl) (by kernel_rfl) (by kernel_rfl) (fun _ _ _ h => h) (by kernel_rfl) (Or.inl ⟨by rfl, fun U _ => ?_⟩) (fun _ => hS.F) ?_
   ·go_simp
   try simp only [zgB]
   refine Till.one (i := 18) (by kernel_rfl) rfl (fun K hK => ?_); obtain ⟨P0, P1, P2, P3, P4, P5, P6, P7, P8⟩ := zbB (hS.box17 _ rfl).1; obtain ⟨Q0, Q1, Q2, Q3, Q4, Q5, Q6, Q7, Q8⟩ := zbC (hS.box17 _ rfl).2.1; have hend := hS.fin; clear hS; simp only [zi] at hend; go_simp
   refine hK.out _ _ (fun h => absurd h (by decide)) ?_; clear hK; try simp only [zgB]
   refine Till.done (by kernel_rfl) ?_ _; exact ⟨_, _, _, _, _, _, _, _, _, _, _, _, _, _, _, _, _, _, _, _, _, _, _, _, _, _, _, rfl, hend⟩
 ·skip
  go_simp; replace hS := hS.box; revert hS; generalize vv.alloc (.cells yZa 31) = v0; intro hS
  refine hK.out _ _ (fun _ => hS.F) ?_; clear hK; try simp only [zgB]
  refine Till.two (i := 4) (j := 8) (by kernel_rfl) rfl rfl (fun K hK => ?_) (fun K hK => ?_)
  ·skip
   go_simp; go_wp2_with (go_at_call 85; refine (zF _ x.a _ _ (zgo _) ha (by exact (TmR.mk m1 ⟨f2, m2⟩).below hS.bel)).mono ?_; rintro e v1 ⟨kA, fA, rfl, hr, hf, hb⟩); obtain ⟨zA, cA, rfl, _, _⟩ := zg hr; replace hS := hS.rd hb hr hf; clear hr hf hb
   refine hK.out _ _ (fun _ => hS.F) ?_; clear hK; try simp only [zgB]
   refine Till.two (i := 7) (j := 8) (by kernel_rfl) rfl rfl (fun K hK => ?_) (fun K hK => ?_)
   ·skip
    go_simp; go_wp2_with (go_at_call 85; refine (zF _ x.b _ _ (zgo _) hb' (by exact (TmR.mk m3 ⟨f4, m4⟩).below hS.bel)).mono ?_; rintro e v2 ⟨kB, fB, rfl, hr, hf, hb⟩); obtain ⟨zB, cB, rfl, _, _⟩ := zg hr; replace hS := hS.rd hb hr hf; clear hr hf hb
    refine hK.out _ _ (fun _ => hS.F) ?_; clear hK; try simp only [zgB]
    refine Till.one (i := 8) (by kernel_rfl) rfl (fun K hK => ?_); go_simp; replace hS := hS.own; revert hS; generalize v2.alloc (.cells #[] 3) = v3; intro hS
    refine hK.out _ _ (fun _ => hS.F) ?_; clear hK; try simp only [zgB]
    refine Till.one (i := 11) (by kernel_rfl) rfl (fun K hK => ?_); have ho := hS.own8 _ rfl; refine zE zU rfl _ _ rfl (w.heap.size + 1 + 1) (.slice (some ⟨_, 0, none⟩) 0 0) [] [] rfl ho.1 (x.T.map zv) (.slice a6 x.T.length c6) f6 rfl (m6.below hS.bel) ?_ ?_ ?_ ?_ hS.size ?_
    ·simp only [List.mem_map]; rintro e ⟨t, _, rfl⟩; exact zL t
    ·intro q hq h; have h1 := m6.lt _ q hq; have h2 := ho.2.1; simp [Value.ownBlock] at h; omega
    ·simp; omega
    ·simp; omega
    intro vT v4 nfp _ ht hg hvT; try simp only [List.nil_append] at ht
    obtain rfl : nfp = [] := by obtain ⟨ys, _, h, _⟩ := ht; exact zQ x.T _ _ _ h
    obtain ⟨fT, hr, hS'⟩ := hS.T (by exact hg) ht hvT; obtain ⟨zT, cT, rfl, _, _⟩ := zg hr; clear hr ht hg hvT ho hS; have hS := hS'; clear hS'
    refine hK.out _ _ (fun _ => hS.F) ?_; clear hK; try simp only [zgB]
    refine Till.free (i := 16) (v := .agg (yOa x zA cA zB cB zT cT)) rfl (by kernel_rfl) (by kernel_rfl) (by kernel_rfl) (fun _ _ _ h => h) (by kernel_rfl) (Or.inl ⟨by rfl, fun U _ => ?_⟩) (fun _ => hS.F) ?_
    ·go_simp
    try simp only [zgB]
    refine Till.one (i := 18) (by kernel_rfl) rfl (fun K hK => ?_); obtain ⟨P0, P1, P2, P3, P4, P5, P6, P7, P8⟩ := zbB (hS.box17 _ rfl).1; obtain ⟨Q0, Q1, Q2, Q3, Q4, Q5, Q6, Q7, Q8⟩ := zbC (hS.box17 _ rfl).2.1; have hend := hS.fin; clear hS; simp only [zi] at hend; go_simp
    refine hK.out _ _ (fun h => absurd h (by decide)) ?_; clear hK; try simp only [zgB]
    refine Till.done (by kernel_rfl) ?_ _; exact ⟨_, _, _, _, _, _, _, _, _, _, _, _, _, _, _, _, _, _, _, _, _, _, _, _, _, _, _, rfl, hend⟩
   ·skip
    go_simp; replace hS := hS.own; revert hS; generalize v1.alloc (.cells #[] 3) = v2; intro hS
    refine hK.out _ _ (fun _ => hS.F) ?_; clear hK; try simp only [zgB]
    refine Till.one (i := 7) (by kernel_rfl) rfl (fun K hK => ?_); go_simp; go_wp2_with (go_at_call 85; refine (zF _ x.b _ _ (zgo _) hb' (by exact (TmR.mk m3 ⟨f4, m4⟩).below hS.bel)).mono ?_; rintro e v3 ⟨kB, fB, rfl, hr, hf, hb⟩); obtain ⟨zB, cB, rfl, _, _⟩ := zg hr; replace hS := hS.rd hb hr hf; clear hr hf hb
    refine hK.out _ _ (fun _ => hS.F) ?_; clear hK; try simp only [zgB]
    refine Till.one (i := 11) (by kernel_rfl) rfl (fun K hK => ?_); have ho := hS.own8 _ rfl; refine zE zU rfl _ _ rfl (w.heap.size + 1 + 1) (.slice (some ⟨_, 0, none⟩) 0 0) [] [] rfl ho.1 (x.T.map zv) (.slice a6 x.T.length c6) f6 rfl (m6.below hS.bel) ?_ ?_ ?_ ?_ hS.size ?_
    ·simp only [List.mem_map]; rintro e ⟨t, _, rfl⟩; exact zL t
    ·intro q hq h; have h1 := m6.lt _ q hq; have h2 := ho.2.1; simp [Value.ownBlock] at h; omega
    ·simp; omega
    ·simp; omega
    intro vT v4 nfp _ ht hg hvT; try simp only [List.nil_append] at ht
    obtain rfl : nfp = [] := by obtain ⟨ys, _, h, _⟩ := ht; exact zQ x.T _ _ _ h
    obtain ⟨fT, hr, hS'⟩ := hS.T (by exact hg) ht hvT; obtain ⟨zT, cT, rfl, _, _⟩ := zg hr; clear hr ht hg hvT ho hS; have hS := hS'; clear hS'
    refine hK.out _ _ (fun _ => hS.F) ?_; clear hK; try simp only [zgB]
    refine Till.free (i := 16) (v := .agg (yOa x zA cA zB cB zT cT)) rfl (by kernel_rfl) (by kernel_rfl) (by kernel_rfl) (fun _ _ _ h => h) (by kernel_rfl) (Or.inl ⟨by rfl, fun U _ => ?_⟩) (fun _ => hS.F) ?_
    ·go_simp
    try simp only [zgB]
    refine Till.one (i := 18) (by kernel_rfl) rfl (fun K hK => ?_); obtain ⟨P0, P1, P2, P3, P4, P5, P6, P7, P8⟩ := zbB (hS.box17 _ rfl).1; obtain ⟨Q0, Q1, Q2, Q3, Q4, Q5, Q6, Q7, Q8⟩ := zbC (hS.box17 _ rfl).2.1; have hend := hS.fin; clear hS; simp only [zi] at hend; go_simp
    refine hK.out _ _ (fun h => absurd h (by decide)) ?_; clear hK; try simp only [zgB]
    refine Till.done (by kernel_rfl) ?_ _; exact ⟨_, _, _, _, _, _, _, _, _, _, _, _, _, _, _, _, _, _, _, _, _, _, _, _, _, _, _, rfl, hend⟩
  ·skip
   go_simp; replace hS := hS.own; revert hS; generalize v0.alloc (.cells #[] 3) = v1; intro hS
   refine hK.out _ _ (fun _ => hS.F) ?_; clear hK; try simp only [zgB]
   refine Till.one (i := 4) (by kernel_rfl) rfl (fun K hK => ?_); go_simp; go_wp2_with (go_at_call 85; refine (zF _ x.a _ _ (zgo _) ha (by exact (TmR.mk m1 ⟨f2, m2⟩).below hS.bel)).mono ?_; rintro e v2 ⟨kA, fA, rfl, hr, hf, hb⟩); obtain ⟨zA, cA, rfl, _, _⟩ := zg hr; replace hS := hS.rd hb hr hf; clear hr hf hb
   refine hK.out _ _ (fun _ => hS.F) ?_; clear hK; try simp only [zgB]
   refine Till.one (i := 7) (by kernel_rfl) rfl (fun K hK => ?_); go_simp; go_wp2_with (go_at_call 85; refine (zF _ x.b _ _ (zgo _) hb' (by exact (TmR.mk m3 ⟨f4, m4⟩).below hS.bel)).mono ?_; rintro e v3 ⟨kB, fB, rfl, hr, hf, hb⟩); obtain ⟨zB, cB, rfl, _, _⟩ := zg hr; replace hS := hS.rd hb hr hf; clear hr hf hb
   refine hK.out _ _ (fun _ => hS.F) ?_; clear hK; try simp only [zgB]
   refine Till.one (i := 11) (by kernel_rfl) rfl (fun K hK => ?_); have ho := hS.own8 _ rfl; refine zE zU rfl _ _ rfl (w.heap.size + 1 + 1) (.slice (some ⟨_, 0, none⟩) 0 0) [] [] rfl ho.1 (x.T.map zv) (.slice a6 x.T.length c6) f6 rfl (m6.below hS.bel) ?_ ?_ ?_ ?_ hS.size ?_
   ·simp only [List.mem_map]; rintro e ⟨t, _, rfl⟩; exact zL t
   ·intro q hq h; have h1 := m6.lt _ q hq; have h2 := ho.2.1; simp [Value.ownBlock] at h; omega
   ·simp; omega
   ·simp; omega
   intro vT v4 nfp _ ht hg hvT; try simp only [List.nil_append] at ht
   obtain rfl : nfp = [] := by obtain ⟨ys, _, h, _⟩ := ht; exact zQ x.T _ _ _ h
   obtain ⟨fT, hr, hS'⟩ := hS.T (by exact hg) ht hvT; obtain ⟨zT, cT, rfl, _, _⟩ := zg hr; clear hr ht hg hvT ho hS; have hS := hS'; clear hS'
   refine hK.out _ _ (fun _ => hS.F) ?_; clear hK; try simp only [zgB]
   refine Till.free (i := 16) (v := .agg (yOa x zA cA zB cB zT cT)) rfl (by kernel_rfl) (by kernel_rfl) (by kernel_rfl) (fun _ _ _ h => h) (by kernel_rfl) (Or.inl ⟨by rfl, fun U _ => ?_⟩) (fun _ => hS.F) ?_
   ·go_simp
   try simp only [zgB]
   refine Till.one (i := 18) (by kernel_rfl) rfl (fun K hK => ?_); obtain ⟨P0, P1, P2, P3, P4, P5, P6, P7, P8⟩ := zbB (hS.box17 _ rfl).1; obtain ⟨Q0, Q1, Q2, Q3, Q4, Q5, Q6, Q7, Q8⟩ := zbC (hS.box17 _ rfl).2.1; have hend := hS.fin; clear hS; simp only [zi] at hend; go_simp
   refine hK.out _ _ (fun h => absurd h (by decide)) ?_; clear hK; try simp only [zgB]
   refine Till.done (by kernel_rfl) ?_ _; exact ⟨_, _, _, _, _, _, _, _, _, _, _, _, _, _, _, _, _, _, _, _, _, _, _, _, _, _, _, rfl, hend⟩
theorem zeI (x : Atm) (l : List Atm) (v : Value) (vs : List Value) (g f : List Nat) (w : World) (hl : Rd w (.sl (l.map Atm.cd)) v g) (hx : RdVs w x.cd vs f) :
  Calls Tryz.prog 121 #[v, .agg vs.toArray] w fun e w' => (∃ n, e = .returned (.int .i64 n) ∧ FirstOf (fun y => eqV y.cd x.cd) l n) ∧ Below w.heap.size w w' := by
 obtain ⟨a, cap, rfl, hc1, hc2⟩ := zg hl; obtain ⟨a2, c2, f2, a4, c4, f4, a5, c5, f5, a6, c6, f6, rfl, -, m0, m1, m2, m3, m4, m5, m6, m7⟩ := Atm.open hx; go_enter Tryz.func121, Tryz.ntmps121; go_wp2_with fail
 go_loopw [5] (fun i wr => ∃ k : Nat, k ≤ l.length ∧ i = .int .i64 k ∧ Hid ((l.take k).all (fun t => !eqV t.cd x.cd) = true) ∧ Below (w.heap.size + 1) (w.alloc (.cells (yNa x a2 c2 a4 c4 a5 c5 a6 c6) 31)) wr) (fun i _ => l.length - (intOf i).toNat)
 case atStart => exact ⟨0, zgx _, rfl, zgn (by simp), zgz _ _⟩
 case round =>
  obtain ⟨k, hkl, rfl, hall, hbx⟩ := hrel; obtain ⟨hx', hz1, hb⟩ := box1 (w := w) (wr := wr) (cs := (yNa x a2 c2 a4 c4 a5 c5 a6 c6)) (T := 31) hbx; obtain ⟨C0, C1, C2, C3, C4, C5, C6, C7, C8⟩ := yQ9 hx'; simp only [zgd, zgb, zgc] at C0 C1 C2 C3 C4 C5 C6 C7 C8; have hz := hb.size
  by_cases hlt : k < l.length
  ·obtain ⟨b, off, rfl, hbs, _⟩ := zl hl (by omega)
   have hbx0 := zgn hbx; have HX : Hid (RdVs wr x.cd (yNl x a2 c2 a4 c4 a5 c5 a6 c6) (f2 ++ (f4 ++ (f5 ++ f6)))) := zgn ((Atm.close m0 m1 m2 m3 m4 m5 m6 m7) |>.below hb); obtain ⟨a2y, c2y, f2y, a4y, c4y, f4y, a5y, c5y, f5y, a6y, c6y, f6y, d0y, d1y, d2y, d3y, d4y, d5y, d6y, d7y, d8y, n0y, n1y, n2y, n3y, n4y, n5y, n6y, n7y, hsuby⟩ := Atm.at (hl.below hb) hlt; have HY := zgn (Atm.close n0y n1y n2y n3y n4y n5y n6y n7y)
   have hbz : b < wr.heap.size := by omega
   clear hx' hbx; go_wp2_with fail; have qC0 := cell_regrown C0; have qC1 := cell_regrown C1; have qC2 := cell_regrown C2; have qC3 := cell_regrown C3; have qC4 := cell_regrown C4; have qC5 := cell_regrown C5; have qC6 := cell_regrown C6; have qC7 := cell_regrown C7; have qC8 := cell_regrown C8; have qd0y := cell_regrown d0y; have qd1y := cell_regrown d1y; have qd2y := cell_regrown d2y; have qd3y := cell_regrown d3y; have qd4y := cell_regrown d4y; have qd5y := cell_regrown d5y; have qd6y := cell_regrown d6y; have qd7y := cell_regrown d7y; have qd8y := cell_regrown d8y; clear C0 C1 C2 C3 C4 C5 C6 C7 C8 d0y d1y d2y d3y d4y d5y d6y d7y d8y; refine wp_region_quiet_below (by kernel_rfl) (by kernel_rfl) ?_
   repeat (quiet_step (first | (go_at_call 139; with_reducible refine zgr (zdk l[k] x _ _ _ _ _ (HY.out.below (below_regrown _ _ _)) (HX.out.below (below_regrown _ _ _))))))
   refine wpQuiet_nil ?_; intro w2 hw2; obtain ⟨⟨dq, osq⟩, hw2⟩ := hw2; have hbq : Below (wr).heap.size (wr) w2 := hw2 ▸ below_regrown (wr) dq osq; clear hw2 qC0 qC1 qC2 qC3 qC4 qC5 qC6 qC7 qC8 qd0y qd1y qd2y qd3y qd4y qd5y qd6y qd7y qd8y; have hbx : Below (w.heap.size + 1) (w.alloc (.cells (yNa x a2 c2 a4 c4 a5 c5 a6 c6) 31)) w2 := hbx0.out.trans (hbq.mono (by omega))
   cases he : eqV l[k].cd x.cd
   ·have HE := zgn (FirstOf.succ hlt hall.out he)
    clear he; go_wp2_with fail; go_roundw
    case rel => exact ⟨k + 1, by omega, by go_num, HE, hbx⟩
    case measure => simp [intOf]; omega
   ·have HE : Hid (FirstOf (fun y => eqV y.cd x.cd) l (k : Int)) := zgn (.inr ⟨k, hlt, rfl, he, hall.out⟩)
    clear he; go_wp2_with fail; go_ret; exact ⟨⟨k, rfl, HE.out⟩, hb.trans (hbq.mono hz)⟩
  ·have HE : Hid (FirstOf (fun y => eqV y.cd x.cd) l (-1)) := zgn (.inl ⟨rfl, by have := hall.out; rwa [zgq (by omega)] at this⟩)
   go_wp2_with fail; go_ret; exact ⟨⟨-1, rfl, HE.out⟩, hb⟩
def addA (l : List Atm) (x : Atm) : List Atm := if hasA l x = true then l else l ++ [x]
theorem addA_yes {l : List Atm} {x : Atm} (h : hasA l x = true) : addA l x = l := if_pos h
theorem addA_no {l : List Atm} {x : Atm} (h : hasA l x = false) : addA l x = l ++ [x] := by unfold addA; rw [h]; rfl
def AtmOut (l' : List Atm) (base : Nat) (lv : Value) (fp f : List Nat) (w : World) (e : Ending) (w' : World) : Prop :=
 ∃ lv' fp', e = .returned lv' ∧ Own w' base 31 9 lv' (l'.map Atm.cd) fp' ∧ (∀ y ∈ fp', y ∈ fp ∨ y ∈ f) ∧ Moved w lv w' lv'
theorem zbN (x : Atm) (l : List Atm) (lv : Value) (vs : List Value) (fp f : List Nat) (base : Nat) (w : World) (hbase : base ≤ w.heap.size) (hlen : l.length ≤ 1000000000) (hown : Own w base 31 9 lv (l.map Atm.cd) fp) (hx : RdVs w x.cd vs f) (hna : ∀ y ∈ f, lv.ownBlock ≠ some y) :
  Calls Tryz.prog 84 #[lv, .agg vs.toArray] w (AtmOut (addA l x) base lv fp f w) := by
 obtain ⟨a2, c2, f2, a4, c4, f4, a5, c5, f5, a6, c6, f6, rfl, rfl, m0, m1, m2, m3, m4, m5, m6, m7⟩ := Atm.open hx; have hat := Atm.close m0 m1 m2 m3 m4 m5 m6 m7; have hff := hat; have hba := zb w (.cells (yNa x a2 c2 a4 c4 a5 c5 a6 c6) 31); obtain ⟨fpr, hrd⟩ := hown.rd'; obtain ⟨la, lc, hlv, hl1, hl2⟩ := hown.form; rw [zgl] at hlv hl1; subst hlv; go_enter Tryz.func84, Tryz.ntmps84; go_wp2_with fail; refine (zeI x l _ _ _ _ _ (hrd.below hba) (by exact hat.below hba)).mono ?_; rintro e w1 ⟨⟨q, rfl, hq⟩, hb1⟩; obtain ⟨hx', hz1, hB⟩ := box1 (w := w) (wr := w1) (cs := (yNa x a2 c2 a4 c4 a5 c5 a6 c6)) (T := 31) (zm hb1 (by simp)); obtain ⟨C0, C1, C2, C3, C4, C5, C6, C7, C8⟩ := yQ9 hx'; simp only [zgd, zgb, zgc] at C0 C1 C2 C3 C4 C5 C6 C7 C8; clear hb1 hx'; have hbd := hq.bd; have HNEG := zgn hq.neg; clear hq hrd
 by_cases hq0 : q < 0
 ·have HE := zgn (addA_no (HNEG.out.1 hq0))
  have hown3 := hown.below (hB.alloc hB.size (.cells (yNa x a2 c2 a4 c4 a5 c5 a6 c6) 31)); have hr3' := (hat.below hB).below (zb w1 (.cells (yNa x a2 c2 a4 c4 a5 c5 a6 c6) 31)); have hzB := hB.size; go_wp2_with (at_builtin; refine zz zaE rfl _ _ rfl base _ _ _ rfl hown3 ⟨w1.heap.size, 0, none⟩ 1 1 [x.cd] (yNl x a2 c2 a4 c4 a5 c5 a6 c6) (f2 ++ (f4 ++ (f5 ++ f6))) rfl rfl ?rd ?k ?cells ?na ?bytes ?len ?base ?next)
  case rd => simpa using hr3'
  case k => simp [Atm.cd_len]
  case cells => exact zq _ _ _
  case na => exact hna
  case bytes => (try rw [zgl]); (try simp); omega
  case len => (try rw [zgl]); (try simp); omega
  case base => simp; omega
  case next =>
   intro v' w4 hown4 hg hv' hs4; go_wp2_with fail; go_ret; exact ⟨v', _, rfl, by rw [HE.out]; simpa using hown4, fun y hy => zgg.1 hy, Moved.after (hB.alloc hB.size _) ⟨hg, by simpa using hv'⟩⟩
 ·have HE := zgn (show addA l x = l by
   cases hh : hasA l x
   ·exact absurd (HNEG.out.2 hh) hq0
   ·exact addA_yes hh)
  have hown3 := hown.below hB; go_wp2_with fail; go_ret; exact ⟨_, fp, rfl, by rw [HE.out]; exact hown3, fun y hy => .inl hy, Moved.after hB (Moved.refl _ _)⟩
theorem zd6 (n : Nat) : ∀ (f : Fm) (l : List Atm) (vs : List Value) (ff : List Nat) (lv : Value) (fp : List Nat) (base : Nat) (w : World), ndV f.cd ≤ n → wtV f.cd ≤ 1048576 → l.length + wtV f.cd ≤ 1000000000 → base ≤ w.heap.size →
   Own w base 31 9 lv (l.map Atm.cd) fp → RdVs w f.cd vs ff → (∀ y ∈ ff, lv.ownBlock ≠ some y) →
  Calls Tryz.prog 41 #[lv, .agg vs.toArray] w fun e w' => ∃ lv' fp', e = .returned lv' ∧ Own w' base 31 9 lv' ((Fm.tell l f).map Atm.cd) fp' ∧ (∀ y ∈ fp', y ∈ fp ∨ y ∈ ff) ∧ Moved w lv w' lv' := by
 induction n with
 | zero =>
  intro f l vs ff lv fp base w hn; have h : 0 < ndV f.cd := by rw [Fm.cd_eq]; simp [ndV, ndC]; try omega
  omega
 | succ n ih =>
 intro f l vs ff lv fp base w hn hbig hsum hbase hown0 hv hna0
 have HN : Hid (∀ k ∈ f.K, ndV k.cd ≤ n) := fun k hk => by have := Fm.kid_nd hk; omega
 have IH := zgn ih; clear ih; obtain ⟨a3, c3, f3, a5, c5, f5, a6, c6, f6, a7, c7, f7, a11, c11, f11, rfl, hff, m0, m1, m2, m3, m4, m5, m6, m7, m8, m9⟩ := Fm.open hv; have HFF := zgn hff; clear hv hff; have hat := Atm.close (x := f.L.M) m1 m2 m3 m4 m5 m6 m7 m8; have hw := Nat.le_of_eq (Fm.wt_eq f).symm; have hba := zb w (.cells (yTa f a3 c3 a5 c5 a6 c6 a7 c7 a11 c11) 36); have hp := zt w (yTa f a3 c3 a5 c5 a6 c6 a7 c7 a11 c11) 36; have hown := hown0.below hba; have HOB : Hid (∀ b, lv.ownBlock = some b → b < w.heap.size) := zgn fun b hb => (hown0.block hb).2; clear hown0; have hk := m9.below hba; have hna : ∀ y ∈ f11, lv.ownBlock ≠ some y := fun y hy => hna0 y (by rw [HFF.out]; simp [hy]); have hE := Fm.tell_eq l f; obtain ⟨la, lc, hlv, hl1, hl2⟩ := hown.form; rw [zgl] at hlv hl1; subst hlv
 by_cases k1 : f.kind = 1
 ·have tk : (f.kind == 1) = true := by simp [k1]
  rw [if_pos k1] at hE; have HE := zgn hE; clear hE k1; go_enter Tryz.func41, Tryz.ntmps41; go_wp2_with fail; refine (zbN f.L.M l _ _ _ _ base _ (by simp; omega) (by omega) hown (by exact hat.below hba) (fun y hy => hna0 y (by rw [HFF.out]; simp only [zgg] at hy ⊢; rcases hy with h | h | h | h <;> simp [h]))).mono ?_; rintro e w1 ⟨lv1, fp1, rfl, hown1, hsub1, hm1⟩; go_wp2_with fail; go_ret; refine ⟨_, _, rfl, by rw [HE.out]; exact hown1, fun y hy => ?_, Moved.after hba hm1⟩
  rcases hsub1 y hy with h | h
  ·exact .inl h
  ·right; rw [HFF.out]; simp only [zgg] at h ⊢; rcases h with h | h | h | h <;> simp [h]
 ·have tk : (f.kind == 1) = false := by simp [k1]
  rw [if_neg k1] at hE; have HE := zgn hE; clear hE k1; go_enter Tryz.func41, Tryz.ntmps41; go_wp2_with fail
  go_loopw [0, 5] (fun ov i wr => ∃ (k : Nat) (fq : List Nat), k ≤ f.K.length ∧ i = .int .i64 k ∧ Own wr base 31 9 ov ((Fm.tells l (f.K.take k)).map Atm.cd) fq ∧ Hid (∀ y ∈ fq, y ∈ fp ∨ y ∈ f11) ∧ Moved (w.alloc (.cells (yTa f a3 c3 a5 c5 a6 c6 a7 c7 a11 c11) 36)) (.slice la l.length lc) wr ov) (fun _ i _ => f.K.length - (intOf i).toNat)
  case atStart => exact ⟨0, fp, zgx _, rfl, hown, zgn fun y hy => .inl hy, Moved.refl _ _⟩
  case round =>
   clear hown; obtain ⟨k, fq, hkl, rfl, hown, hsub, hm⟩ := hrel; have hz := zgy hba.size hm.size; have hp' := fun j => zbe hm HOB.out j; have C0 := hp' 0; have C11 := hp' 11; simp only [zgd, zgb, zgc] at C0 C11; clear hp'; have hln := Fm.tells_len (f.K.take k) l; have hle := zu Fm.cd f.K k; rw [← List.map_take] at hle
   have hlk : (f.K.take k).length ≤ k := by simp; omega
   by_cases hlt : k < f.K.length
   ·have hkr := hk.same _ (hm.same (hk.lt _) hna)
    have hka := hm.away (hk.lt _) hna; obtain ⟨b, off, rfl, hbs, _⟩ := zl hk (by omega); obtain ⟨b3, e3, g3, b5, e5, g5, b6, e6, g6, b7, e7, g7, b11, e11, g11, d0, d1, d2, d3, d4, d5, d6, d7, d8, d9, d10, d11, n0, n1, n2, n3, n4, n5, n6, n7, n8, n9, hsb⟩ := Fm.at hkr hlt; have hbz : b < wr.heap.size := zge hbs hm.size; have hle2 := zu Fm.cd f.K (k + 1); rw [zC Fm.cd f.K k hlt, ← List.map_take] at hle2; go_wp2_with fail; refine (IH.out f.K[k] (Fm.tells l (f.K.take k)) _ _ _ fq base _ (HN.out _ (zgh hlt)) (by omega) (by omega) (by omega) hown (by exact (Fm.close n0 n1 n2 n3 n4 n5 n6 n7 n8 n9)) (fun y hy => hka y (hsb y hy))).mono ?_; rintro e w2 ⟨lv2, fp2, rfl, hown2, hsub2, hm2⟩; go_wp2_with fail; go_roundw
    case rel => exact ⟨k + 1, fp2, by omega, by go_num, by rw [Fm.tells_succ _ _ _ hlt]; exact hown2, zgn fun y hy => (hsub2 y hy).elim (fun h => hsub.out y h) (fun h => .inr (hsb y h)), hm.trans hm2⟩
    case measure => simp [intOf]; omega
   ·have he : f.K.take k = f.K := zgq (by omega)
    rw [he] at hown; go_wp2_with fail; go_ret; exact ⟨_, fq, rfl, by rw [HE.out]; exact hown, fun y hy => (hsub.out y hy).elim .inl (fun h => .inr (by rw [HFF.out]; simp [h])), Moved.after hba hm⟩
theorem zeJ (f : Fm) (vs : List Value) (ff : List Nat) (w : World) (hbig : wtV f.cd ≤ 1048576) (hv : RdVs w f.cd vs ff) :
  Calls Tryz.prog 40 #[.agg vs.toArray] w fun e w' => e = .returned (.bool f.okF) ∧ Below w.heap.size w w' := by
 rw [Fm.okF_right]; have hv0 := hv; obtain ⟨a3, c3, f3, a5, c5, f5, a6, c6, f6, a7, c7, f7, a11, c11, f11, rfl, -, m0, m1, m2, m3, m4, m5, m6, m7, m8, m9⟩ := Fm.open hv; clear hv; have hln := Fm.tell_len f []; have hmn := Fm.many_le f 5; go_enter Tryz.func40, Tryz.ntmps40; go_wp2_with fail; refine (l9Shape_n _ f 5 _ _ _ (zgo _) hbig (by omega) (by omega) (by exact hv0.below (zb _ _))).mono ?_; rintro e w1 ⟨rfl, hb1⟩; have HBX := zgn (zm (n := w.heap.size + 1) hb1 (by simp)); obtain ⟨hx, hz1, hB⟩ := box1 (w := w) (wr := w1) (cs := (yTa f a3 c3 a5 c5 a6 c6 a7 c7 a11 c11)) (T := 36) (zm hb1 (by simp)); obtain ⟨C0, C1, C2, C3, C4, C5, C6, C7, C8, C9, C10, C11⟩ := yQ12 hx; simp only [zgd, zgb, zgc] at C0 C1 C2 C3 C4 C5 C6 C7 C8 C9 C10 C11; clear hb1 hx; have h55 : (5 : Int).toNat = 5 := rfl; rw [h55]; clear h55
 cases hsh : Fm.shape 5 f
 ·have HE := zgn (show f.rightF = false by unfold Fm.rightF; simp [hsh])
  clear hsh; go_wp2_with fail; go_ret; exact ⟨retB HE.out.symm, hB⟩
 ·go_wp2_with fail
  refine (l9Many_n _ f 5 _ _ _ (zgo _) hbig (by omega) (by omega) (by exact hv0.below hB)).mono ?_; rintro e w2 ⟨rfl, hb2⟩; obtain ⟨hx, hz2, hB2⟩ := box1 (w := w) (wr := w2) (cs := (yTa f a3 c3 a5 c5 a6 c6 a7 c7 a11 c11)) (T := 36) (HBX.out.trans (hb2.mono (by omega))); clear C0 C1 C2 C3 C4 C5 C6 C7 C8 C9 C10 C11; obtain ⟨C0, C1, C2, C3, C4, C5, C6, C7, C8, C9, C10, C11⟩ := yQ12 hx; simp only [zgd, zgb, zgc] at C0 C1 C2 C3 C4 C5 C6 C7 C8 C9 C10 C11; have h55 : (5 : Int).toNat = 5 := rfl; rw [h55]; clear h55 hx hB
  by_cases h1 : Fm.many 5 f ≤ 10
  ·have HE0 := zgn (show f.rightF = decide (((Fm.tell [] f).length : Int) ≤ 6) by unfold Fm.rightF; rw [Bool.eq_iff_iff]; simp [hsh, h1]; try omega)
   clear hsh; go_wp2_with fail; refine (zd6 _ f [] _ _ (.slice none 0 0) [] w2.heap.size _ (zgo _) hbig (by simp; omega) (zgo _) (Own.nil _ _ _ _) (by exact hv0.below hB2) (by simp [Value.ownBlock])).mono ?_; rintro e w3 ⟨lv, fp, rfl, hown, _, hm⟩; obtain ⟨la, lc, rfl, _, _⟩ := hown.form; have hB3 := hB2.trans (hm.toBelow (B := w.heap.size) (by omega) (by simp [Value.ownBlock])); rw [zgl]; clear hm hown; go_wp2_with fail; go_ret; exact ⟨retB HE0.out.symm, hB3⟩
  ·have HE := zgn (show f.rightF = false by unfold Fm.rightF; simp [h1])
   clear hsh; go_wp2_with fail; go_ret; exact ⟨retB HE.out.symm, hB2⟩
mutual
theorem Fm.add_wt : ∀ (f : Fm) (l : List Atm), wtR ((Fm.add l f).map Atm.cd) ≤ wtR (l.map Atm.cd) + wtV f.cd
 | .mk kind lit kids, l => by
  have h := Fm.adds_wt kids l; have h2 := Fm.wt_eq (.mk kind lit kids); simp only [Fm.K, Fm.L, Lt.cd, zI, zav] at h2; simp only [Fm.add]
  split
  ·rw [zgj, zW]; simp [wtR]; omega
  ·omega
theorem Fm.adds_wt : ∀ (ks : List Fm) (l : List Atm), wtR ((Fm.adds l ks).map Atm.cd) ≤ wtR (l.map Atm.cd) + wtR (ks.map Fm.cd)
 | [], l => by simp [Fm.adds, wtR]
 | k :: ks, l => by
  have h1 := Fm.add_wt k l; have h2 := Fm.adds_wt ks (Fm.add l k); simp only [Fm.adds, List.map_cons, zX]; omega
end
theorem zcEU {α : Type} {cd : α → List CD} : ∀ {l : List α} {x : α}, x ∈ l → wtV (cd x) ≤ wtR (l.map cd)
 | a :: l, x, h => by
  rw [List.map_cons, zX]
  rcases zgk.1 h with rfl | h
  ·omega
  ·have := zcEU (cd := cd) h; omega
theorem zcF (fs : List Fm) (v : Value) (ff : List Nat) (w : World) (hbig : fs.length + wtR (fs.map Fm.cd) ≤ 1048576) (hv : Rd w (.sl (fs.map Fm.cd)) v ff) :
  Calls Tryz.prog 57 #[v] w fun e w' => ∃ rv fp, e = .returned rv ∧ Own w' w.heap.size 31 9 rv ((Fm.tells [] fs).map Atm.cd) fp ∧ (∀ y ∈ fp, y ∈ ff) ∧ Below w.heap.size w w' := by
 obtain ⟨a, cap, rfl, hc1, hc2⟩ := zg hv; go_enter Tryz.func57, Tryz.ntmps57; go_wp2_with fail
 go_loopw [3, 4] (fun ov i wr => ∃ (k : Nat) (fp : List Nat), k ≤ fs.length ∧ i = .int .i64 k ∧ Own wr w.heap.size 31 9 ov ((Fm.tells [] (fs.take k)).map Atm.cd) fp ∧ Hid (∀ y ∈ fp, y ∈ ff) ∧ Below w.heap.size w wr) (fun _ i _ => fs.length - (intOf i).toNat)
 case atStart => exact ⟨0, [], zgx _, rfl, Own.empty _ _ _ _ (zgo _), zgn (by simp), zb _ _⟩
 case round =>
  obtain ⟨k, fp, hkl, rfl, hown, hsub, hb⟩ := hrel; have hz := hb.size; have hln := Fm.tells_len (fs.take k) []; have hle := zu Fm.cd fs k; rw [← List.map_take] at hle
  have hlk : (fs.take k).length ≤ k := by simp; omega
  simp only [List.length_nil, Nat.zero_add] at hln
  by_cases hlt : k < fs.length
  ·obtain ⟨b, off, rfl, hbs, _⟩ := zl hv (by omega)
   obtain ⟨b3, e3, g3, b5, e5, g5, b6, e6, g6, b7, e7, g7, b11, e11, g11, d0, d1, d2, d3, d4, d5, d6, d7, d8, d9, d10, d11, n0, n1, n2, n3, n4, n5, n6, n7, n8, n9, hsb⟩ := Fm.at (hv.below hb) hlt
   have hbz : b < wr.heap.size := by omega
   have hle2 := zu Fm.cd fs (k + 1); rw [zC Fm.cd fs k hlt, ← List.map_take] at hle2; have hna : ∀ y ∈ g3 ++ (g5 ++ (g6 ++ (g7 ++ g11))), u3.ownBlock ≠ some y := fun y hy => hown.row_ne (hv.lt _ y (hsb y hy)); go_wp2_with fail; refine (zd6 _ fs[k] (Fm.tells [] (fs.take k)) _ _ _ fp w.heap.size _ (zgo _) (by omega) (by omega) (by omega) (by exact hown) (by exact (Fm.close n0 n1 n2 n3 n4 n5 n6 n7 n8 n9)) hna).mono ?_; rintro e w2 ⟨lv2, fp2, rfl, hown2, hsub2, hm2⟩; have hB2 := hb.trans (hm2.toBelow (B := w.heap.size) (by omega) (fun b h => (hown.block h).1)); go_wp2_with fail; go_roundw
   case rel => exact ⟨k + 1, fp2, by omega, by go_num, by rw [Fm.tells_succ _ _ _ hlt]; exact hown2, zgn fun y hy => (hsub2 y hy).elim (hsub.out y) (hsb y), hB2⟩
   case measure => simp [intOf]; omega
  ·have he : fs.take k = fs := zgq (by omega)
   rw [he] at hown; go_wp2_with fail; go_ret; exact ⟨_, fp, rfl, hown, hsub.out, hb⟩
theorem Fm.ok_adds : ∀ (fs : List Fm) (l : List Atm), fs.all Fm.okF = true → Fm.adds l fs = Fm.tells l fs
 | [], l, _ => rfl
 | f :: fs, l, h => by
  rw [List.all_cons, zgm] at h; have h1 := h.1; rw [Fm.okF_right] at h1; simp only [Fm.rightF, zgm] at h1; simp only [Fm.adds, Fm.tells]; rw [Fm.add_tell f 5 l h1.1.1, Fm.ok_adds fs _ h.2]
theorem zeK {fs : List Fm} (h : fs.all Fm.okF = true) : zaC fs = (decide (fs.length ≤ 5) && decide ((Fm.tells [] fs).length ≤ 6)) := by
 unfold zaC; rw [h, Fm.ok_adds fs [] h]; rfl
theorem zd7 (fs : List Fm) (v : Value) (ff : List Nat) (w : World) (hbig : fs.length + wtR (fs.map Fm.cd) ≤ 1048576) (hv : Rd w (.sl (fs.map Fm.cd)) v ff) :
  Calls Tryz.prog 56 #[v] w fun e w' => e = .returned (.bool (zaC fs)) ∧ Below w.heap.size w w' := by
 obtain ⟨a, cap, rfl, hc1, hc2⟩ := zg hv; go_enter Tryz.func56, Tryz.ntmps56; go_wp2_with fail
 go_loopw [3] (fun i wr => ∃ (k : Nat), k ≤ fs.length ∧ i = .int .i64 k ∧ Hid ((fs.take k).all Fm.okF = true) ∧ Below w.heap.size w wr) (fun i _ => fs.length - (intOf i).toNat)
 case atStart => exact ⟨0, zgx _, rfl, zgn (by simp), zgz _ _⟩
 case round =>
  obtain ⟨k, hkl, rfl, hall, hb⟩ := hrel; have hz := hb.size
  by_cases hlt : k < fs.length
  ·obtain ⟨b, off, rfl, hbs, _⟩ := zl hv (by omega)
   obtain ⟨b3, e3, g3, b5, e5, g5, b6, e6, g6, b7, e7, g7, b11, e11, g11, d0, d1, d2, d3, d4, d5, d6, d7, d8, d9, d10, d11, n0, n1, n2, n3, n4, n5, n6, n7, n8, n9, hsb⟩ := Fm.at (hv.below hb) hlt
   have hbz : b < wr.heap.size := by omega
   have hle2 := zu Fm.cd fs (k + 1); rw [zC Fm.cd fs k hlt] at hle2; go_wp2_with fail; refine (zeJ fs[k] _ _ _ (by omega) (by exact (Fm.close n0 n1 n2 n3 n4 n5 n6 n7 n8 n9))).mono ?_; rintro e w1 ⟨rfl, hb1⟩
   cases hok : fs[k].okF
   ·have HO : Hid (zaC fs = false) := zgn (by
     have : fs.all Fm.okF = false := by rw [List.all_eq_false]; exact ⟨fs[k], zgh hlt, by simp [hok]⟩
     unfold zaC; simp [this])
    clear hok; go_wp2_with fail; go_ret; exact ⟨retB HO.out.symm, hb.trans (hb1.mono hz)⟩
   ·have HA : Hid ((fs.take (k + 1)).all Fm.okF = true) := zgn (by rw [zgf hlt, List.all_append, hall.out]; simp [hok])
    clear hok; go_wp2_with fail; go_roundw
    case rel => exact ⟨k + 1, by omega, by go_num, HA, hb.trans (hb1.mono hz)⟩
    case measure => simp [intOf]; omega
  ·have he : fs.take k = fs := zgq (by omega)
   rw [he] at hall; have HO := zgn (zeK hall.out); have hln := Fm.tells_len fs []; simp only [List.length_nil, Nat.zero_add] at hln; clear he
   by_cases h5 : fs.length ≤ 5
   ·have HE : Hid (zaC fs = decide (((Fm.tells [] fs).length : Int) ≤ 6)) := zgn (by rw [HO.out, Bool.eq_iff_iff]; simp [h5]; try omega)
    go_wp2_with fail; refine (zcF fs _ _ _ hbig (hv.below hb)).mono ?_; rintro e w2 ⟨rv, fp, rfl, hown, _, hb2⟩; obtain ⟨la, lc, rfl, _, _⟩ := hown.form; rw [zgl]; clear hown; go_wp2_with fail; go_ret; exact ⟨retB HE.out.symm, hb.trans (hb2.mono hz)⟩
   ·have HE : Hid (zaC fs = false) := zgn (by rw [HO.out]; simp [h5])
    go_wp2_with fail; go_ret; exact ⟨retB HE.out.symm, hb⟩
end Go.Proofs.YtbfinjiledfpcaaGreat
end
