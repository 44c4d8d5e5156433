/- Parts of the proof: FormS. -/
import Derived.BigQuiet
import Derived.Test.YtoehhbkhdddeeaaDoorPx34
import Derived.Test.YtoehhbkhdddeeaaDoorPx18
import Derived.Test.YtoehhbkhdddeeaaDoorPx33
import Derived.Test.YtoehhbkhdddeeaaDoorPx40
section
namespace Go.Proofs.YtoehhbkhdddeeaaDoor
open Go Go.RowKit
set_option linter.unusedVariables false
set_option linter.unusedSimpArgs false
set_option maxRecDepth 100000
set_option maxHeartbeats 16000000
theorem zcb (k : Int) (w : World) : Calls Tryd.prog 104 #[.int .i64 k] w fun e w' => e = .returned (.int .i64 (Fm.nk k)) ∧ w = w' := by
  by_cases h1 : k = 1
  · subst h1
    go_enter Tryd.func104, Tryd.ntmps104
    go_wp2_with fail
    go_ret
    exact ⟨rfl, rfl⟩
  by_cases h2 : k = 2
  · subst h2
    go_enter Tryd.func104, Tryd.ntmps104
    go_wp2_with fail
    go_ret
    exact ⟨rfl, rfl⟩
  by_cases h3 : k = 3
  · subst h3
    go_enter Tryd.func104, Tryd.ntmps104
    go_wp2_with fail
    go_ret
    exact ⟨rfl, rfl⟩
  by_cases h4 : k = 4
  · subst h4
    go_enter Tryd.func104, Tryd.ntmps104
    go_wp2_with fail
    go_ret
    exact ⟨rfl, rfl⟩
  by_cases h5 : k = 5
  · subst h5
    go_enter Tryd.func104, Tryd.ntmps104
    go_wp2_with fail
    go_ret
    exact ⟨rfl, rfl⟩
  by_cases h6 : k = 6
  · subst h6
    go_enter Tryd.func104, Tryd.ntmps104
    go_wp2_with fail
    go_ret
    exact ⟨rfl, rfl⟩
  have HN := Lib.hid (show Fm.nk k = -1 by unfold Fm.nk; rw [if_neg h1, if_neg h2, if_neg h3, if_neg h4, if_neg h5, if_neg h6])
  have t1 : (k == 1) = false := by simp [h1]
  have t2 : (k == 2) = false := by simp [h2]
  have t3 : (k == 3) = false := by simp [h3]
  have t4 : (k == 4) = false := by simp [h4]
  have t5 : (k == 5) = false := by simp [h5]
  have t6 : (k == 6) = false := by simp [h6]
  clear h1 h2 h3 h4 h5 h6
  go_enter Tryd.func104, Tryd.ntmps104
  go_wp2_with fail
  go_ret
  exact ⟨retI HN.out.symm, rfl⟩
theorem zbH (x : Lt) (vs : List Value) (f : List Nat) (w : World) (hv : RdVs w x.cd vs f) : Calls Tryd.prog 105 #[.agg vs.toArray] w fun e w' => e = .returned (.bool x.bare) ∧ Below w.heap.size w w' := by
  obtain ⟨a2, c2, f2, a4, c4, f4, a5, c5, f5, a6, c6, f6, rfl, _, m0, m1, m2, m3, m4, m5, m6, m7⟩ := Lt.open hv
  have hat := Atm.close m0 m1 m2 m3 m4 m5 m6 m7
  cases hno : x.no
  · have HB := Lib.hid (show x.bare = eqV x.atom.cd Atm.zero.cd by unfold Lt.bare; rw [hno]; simp)
    go_enter Tryd.func105, Tryd.ntmps105
    go_wp2_with fail
    refine (za5 x.atom Atm.zero _ _ _ _ _ (by exact hat.below (za _ _)) (by exact Atm.zero_rd _)).mono ?_
    rintro e w1 ⟨rfl, hb⟩
    go_wp2_with fail
    go_ret
    exact ⟨retB HB.out.symm, (za _ _).trans (hb.mono (by simp))⟩
  · have HB := Lib.hid (show x.bare = false by unfold Lt.bare; rw [hno]; simp)
    go_enter Tryd.func105, Tryd.ntmps105
    go_wp2_with fail
    go_ret
    exact ⟨retB HB.out.symm, za _ _⟩
theorem zaE (k : Int) (w : World) : Calls Tryd.prog 104 #[.int .i64 k] w fun e w' => e = .returned (.int .i64 (Fm.nk k)) ∧ Below w.heap.size w w' := (zcb k w).mono fun _ _ ⟨h, h'⟩ => ⟨h, h' ▸ Below.refl _ _⟩
theorem l9Shape_n (n : Nat) : ∀ (f : Fm) (deep : Int) (vs : List Value) (ff : List Nat) (w : World), ndV f.cd ≤ n → wtV f.cd ≤ 1048576 → 0 ≤ deep → deep ≤ 5 → RdVs w f.cd vs ff →
    Calls Tryd.prog 81 #[.agg vs.toArray, .int .i64 deep] w fun e w' => e = .returned (.bool (Fm.shape deep.toNat f)) ∧ Below w.heap.size w w' := by
  induction n with
  | zero =>
    intro f deep vs ff w hn; have h : 0 < ndV f.cd := by rw [Fm.cd_eq]; simp [ndV, ndC]; try omega
    omega
  | succ n ih =>
  intro f deep vs ff w hn hbig hd0 hd5 hv
  have HN : Hid (∀ k ∈ f.kids, ndV k.cd ≤ n) := fun k hk => by have := Fm.kid_nd hk; omega
  have IH := Lib.hid ih
  clear ih
  obtain ⟨a3, c3, f3, a5, c5, f5, a6, c6, f6, a7, c7, f7, a11, c11, f11, rfl, -, m0, m1, m2, m3, m4, m5, m6, m7, m8, m9⟩ := Fm.open hv
  clear hv
  have hat := Atm.close (x := f.lit.atom) m1 m2 m3 m4 m5 m6 m7 m8
  have hli := Lt.close (x := f.lit) m1 m2 m3 m4 m5 m6 m7 m8
  have hw := Nat.le_of_eq (Fm.wt_eq f).symm
  have hE := Fm.shape_eq deep.toNat f
  have hp := zu w #[.int .i64 f.kind, .int .i64 f.lit.atom.kind, .string f.lit.atom.a.name, .slice a3 f.lit.atom.a.kids.length c3, .string f.lit.atom.b.name, .slice a5 f.lit.atom.b.kids.length c5, .slice a6 f.lit.atom.nums.length c6, .slice a7 f.lit.atom.times.length c7, .int .i64 f.lit.atom.bound, .bool f.lit.atom.strict, .bool f.lit.no, .slice a11 f.kids.length c11] 60
  by_cases hd : deep < 1
  · rw [if_pos (.inl (by omega))] at hE
    have HE := Lib.hid hE
    clear hE
    have C0 := hp 0
    have C11 := hp 11
    simp only [zci, zcg, zch] at C0 C11
    go_enter Tryd.func81, Tryd.ntmps81
    go_wp2_with fail
    have qC0 := cell_regrown C0
    have qC11 := cell_regrown C11
    clear C0 C11
    refine wp_region_quiet_below (by kernel_rfl) (by kernel_rfl) ?_
    repeat (first | go_big_quiet_skip | quiet_step (first | (go_at_call 104; with_reducible refine Calls.regrown_of (zaE _ _))))
    refine wpQuiet_nil ?_
    intro w1 hw2
    obtain ⟨⟨dq, osq⟩, hw2⟩ := hw2
    have hbq : Below (w.alloc (.cells #[.int .i64 f.kind, .int .i64 f.lit.atom.kind, .string f.lit.atom.a.name, .slice a3 f.lit.atom.a.kids.length c3, .string f.lit.atom.b.name, .slice a5 f.lit.atom.b.kids.length c5, .slice a6 f.lit.atom.nums.length c6, .slice a7 f.lit.atom.times.length c7, .int .i64 f.lit.atom.bound, .bool f.lit.atom.strict, .bool f.lit.no, .slice a11 f.kids.length c11] 60)).heap.size (w.alloc (.cells #[.int .i64 f.kind, .int .i64 f.lit.atom.kind, .string f.lit.atom.a.name, .slice a3 f.lit.atom.a.kids.length c3, .string f.lit.atom.b.name, .slice a5 f.lit.atom.b.kids.length c5, .slice a6 f.lit.atom.nums.length c6, .slice a7 f.lit.atom.times.length c7, .int .i64 f.lit.atom.bound, .bool f.lit.atom.strict, .bool f.lit.no, .slice a11 f.kids.length c11] 60)) w1 := hw2 ▸ below_regrown (w.alloc (.cells #[.int .i64 f.kind, .int .i64 f.lit.atom.kind, .string f.lit.atom.a.name, .slice a3 f.lit.atom.a.kids.length c3, .string f.lit.atom.b.name, .slice a5 f.lit.atom.b.kids.length c5, .slice a6 f.lit.atom.nums.length c6, .slice a7 f.lit.atom.times.length c7, .int .i64 f.lit.atom.bound, .bool f.lit.atom.strict, .bool f.lit.no, .slice a11 f.kids.length c11] 60)) dq osq
    clear hw2 qC0 qC11
    have hbx := zg (n := w.heap.size + 1) hbq (by simp)
    clear hbq
    obtain ⟨hx, hz1, hb⟩ := box1 (w := w) (wr := w1) (cs := #[.int .i64 f.kind, .int .i64 f.lit.atom.kind, .string f.lit.atom.a.name, .slice a3 f.lit.atom.a.kids.length c3, .string f.lit.atom.b.name, .slice a5 f.lit.atom.b.kids.length c5, .slice a6 f.lit.atom.nums.length c6, .slice a7 f.lit.atom.times.length c7, .int .i64 f.lit.atom.bound, .bool f.lit.atom.strict, .bool f.lit.no, .slice a11 f.kids.length c11]) (T := 60) hbx
    have C0 := hx 0
    have C1 := hx 1
    have C2 := hx 2
    have C3 := hx 3
    have C4 := hx 4
    have C5 := hx 5
    have C6 := hx 6
    have C7 := hx 7
    have C8 := hx 8
    have C9 := hx 9
    have C10 := hx 10
    have C11 := hx 11
    simp only [zci, zcg, zch] at C0 C1 C2 C3 C4 C5 C6 C7 C8 C9 C10 C11
    go_wp2_with fail
    go_ret
    exact ⟨retB HE.out.symm, hb⟩
  by_cases hk : Fm.nk f.kind = (f.kids.length : Int)
  rotate_left
  · rw [if_pos (.inr hk)] at hE
    have HE := Lib.hid hE
    clear hE
    have tk : (Fm.nk f.kind != (f.kids.length : Int)) = true := by simp [hk]
    clear hk
    have C0 := hp 0
    have C11 := hp 11
    simp only [zci, zcg, zch] at C0 C11
    go_enter Tryd.func81, Tryd.ntmps81
    go_wp2_with fail
    have qC0 := cell_regrown C0
    have qC11 := cell_regrown C11
    clear C0 C11
    refine wp_region_quiet_below (by kernel_rfl) (by kernel_rfl) ?_
    repeat (first | go_big_quiet_skip | quiet_step (first | (go_at_call 104; with_reducible refine Calls.regrown_of (zaE _ _))))
    refine wpQuiet_nil ?_
    intro w1 hw2
    obtain ⟨⟨dq, osq⟩, hw2⟩ := hw2
    have hbq : Below (w.alloc (.cells #[.int .i64 f.kind, .int .i64 f.lit.atom.kind, .string f.lit.atom.a.name, .slice a3 f.lit.atom.a.kids.length c3, .string f.lit.atom.b.name, .slice a5 f.lit.atom.b.kids.length c5, .slice a6 f.lit.atom.nums.length c6, .slice a7 f.lit.atom.times.length c7, .int .i64 f.lit.atom.bound, .bool f.lit.atom.strict, .bool f.lit.no, .slice a11 f.kids.length c11] 60)).heap.size (w.alloc (.cells #[.int .i64 f.kind, .int .i64 f.lit.atom.kind, .string f.lit.atom.a.name, .slice a3 f.lit.atom.a.kids.length c3, .string f.lit.atom.b.name, .slice a5 f.lit.atom.b.kids.length c5, .slice a6 f.lit.atom.nums.length c6, .slice a7 f.lit.atom.times.length c7, .int .i64 f.lit.atom.bound, .bool f.lit.atom.strict, .bool f.lit.no, .slice a11 f.kids.length c11] 60)) w1 := hw2 ▸ below_regrown (w.alloc (.cells #[.int .i64 f.kind, .int .i64 f.lit.atom.kind, .string f.lit.atom.a.name, .slice a3 f.lit.atom.a.kids.length c3, .string f.lit.atom.b.name, .slice a5 f.lit.atom.b.kids.length c5, .slice a6 f.lit.atom.nums.length c6, .slice a7 f.lit.atom.times.length c7, .int .i64 f.lit.atom.bound, .bool f.lit.atom.strict, .bool f.lit.no, .slice a11 f.kids.length c11] 60)) dq osq
    clear hw2 qC0 qC11
    have hbx := zg (n := w.heap.size + 1) hbq (by simp)
    clear hbq
    obtain ⟨hx, hz1, hb⟩ := box1 (w := w) (wr := w1) (cs := #[.int .i64 f.kind, .int .i64 f.lit.atom.kind, .string f.lit.atom.a.name, .slice a3 f.lit.atom.a.kids.length c3, .string f.lit.atom.b.name, .slice a5 f.lit.atom.b.kids.length c5, .slice a6 f.lit.atom.nums.length c6, .slice a7 f.lit.atom.times.length c7, .int .i64 f.lit.atom.bound, .bool f.lit.atom.strict, .bool f.lit.no, .slice a11 f.kids.length c11]) (T := 60) hbx
    have C0 := hx 0
    have C1 := hx 1
    have C2 := hx 2
    have C3 := hx 3
    have C4 := hx 4
    have C5 := hx 5
    have C6 := hx 6
    have C7 := hx 7
    have C8 := hx 8
    have C9 := hx 9
    have C10 := hx 10
    have C11 := hx 11
    simp only [zci, zcg, zch] at C0 C1 C2 C3 C4 C5 C6 C7 C8 C9 C10 C11
    go_wp2_with fail
    go_ret
    exact ⟨retB HE.out.symm, hb⟩
  have tk : (Fm.nk f.kind != (f.kids.length : Int)) = false := by simp [hk]
  have hsm := Lt.small_of (x := f.lit) (by omega)
  rw [if_neg (by rintro (h | h); · omega
                 · exact h hk)] at hE
  clear hk
  by_cases k1 : f.kind = 1
  · have t1 : (f.kind == 1) = true := by simp [k1]
    rw [if_pos k1] at hE
    have HE := Lib.hid hE
    clear hE k1
    have C0 := hp 0
    have C11 := hp 11
    simp only [zci, zcg, zch] at C0 C11
    go_enter Tryd.func81, Tryd.ntmps81
    go_wp2_with fail
    have qC0 := cell_regrown C0
    have qC11 := cell_regrown C11
    clear C0 C11
    refine wp_region_quiet_below (by kernel_rfl) (by kernel_rfl) ?_
    repeat (first | go_big_quiet_skip | quiet_step (first | (go_at_call 104; with_reducible refine Calls.regrown_of (zaE _ _))))
    refine wpQuiet_nil ?_
    intro w1 hw2
    obtain ⟨⟨dq, osq⟩, hw2⟩ := hw2
    have hbq : Below (w.alloc (.cells #[.int .i64 f.kind, .int .i64 f.lit.atom.kind, .string f.lit.atom.a.name, .slice a3 f.lit.atom.a.kids.length c3, .string f.lit.atom.b.name, .slice a5 f.lit.atom.b.kids.length c5, .slice a6 f.lit.atom.nums.length c6, .slice a7 f.lit.atom.times.length c7, .int .i64 f.lit.atom.bound, .bool f.lit.atom.strict, .bool f.lit.no, .slice a11 f.kids.length c11] 60)).heap.size (w.alloc (.cells #[.int .i64 f.kind, .int .i64 f.lit.atom.kind, .string f.lit.atom.a.name, .slice a3 f.lit.atom.a.kids.length c3, .string f.lit.atom.b.name, .slice a5 f.lit.atom.b.kids.length c5, .slice a6 f.lit.atom.nums.length c6, .slice a7 f.lit.atom.times.length c7, .int .i64 f.lit.atom.bound, .bool f.lit.atom.strict, .bool f.lit.no, .slice a11 f.kids.length c11] 60)) w1 := hw2 ▸ below_regrown (w.alloc (.cells #[.int .i64 f.kind, .int .i64 f.lit.atom.kind, .string f.lit.atom.a.name, .slice a3 f.lit.atom.a.kids.length c3, .string f.lit.atom.b.name, .slice a5 f.lit.atom.b.kids.length c5, .slice a6 f.lit.atom.nums.length c6, .slice a7 f.lit.atom.times.length c7, .int .i64 f.lit.atom.bound, .bool f.lit.atom.strict, .bool f.lit.no, .slice a11 f.kids.length c11] 60)) dq osq
    clear hw2 qC0 qC11
    have hbx := zg (n := w.heap.size + 1) hbq (by simp)
    clear hbq
    obtain ⟨hx, hz1, hb⟩ := box1 (w := w) (wr := w1) (cs := #[.int .i64 f.kind, .int .i64 f.lit.atom.kind, .string f.lit.atom.a.name, .slice a3 f.lit.atom.a.kids.length c3, .string f.lit.atom.b.name, .slice a5 f.lit.atom.b.kids.length c5, .slice a6 f.lit.atom.nums.length c6, .slice a7 f.lit.atom.times.length c7, .int .i64 f.lit.atom.bound, .bool f.lit.atom.strict, .bool f.lit.no, .slice a11 f.kids.length c11]) (T := 60) hbx
    have C0 := hx 0
    have C1 := hx 1
    have C2 := hx 2
    have C3 := hx 3
    have C4 := hx 4
    have C5 := hx 5
    have C6 := hx 6
    have C7 := hx 7
    have C8 := hx 8
    have C9 := hx 9
    have C10 := hx 10
    have C11 := hx 11
    simp only [zci, zcg, zch] at C0 C1 C2 C3 C4 C5 C6 C7 C8 C9 C10 C11
    go_wp2_with fail
    refine (zaP f.lit.atom _ _ _ hsm (by exact hat.below hb)).mono ?_
    rintro e w2 ⟨rfl, hb2⟩
    go_wp2_with fail
    go_ret
    exact ⟨retB HE.out.symm, hb.trans (hb2.mono hb.size)⟩
  · have t1 : (f.kind == 1) = false := by simp [k1]
    rw [if_neg k1] at hE
    have HE0 := Lib.hid hE
    clear hE k1
    have C0 := hp 0
    have C11 := hp 11
    simp only [zci, zcg, zch] at C0 C11
    go_enter Tryd.func81, Tryd.ntmps81
    go_wp2_with fail
    have qC0 := cell_regrown C0
    have qC11 := cell_regrown C11
    clear C0 C11
    refine wp_region_quiet_below (by kernel_rfl) (by kernel_rfl) ?_
    repeat (first | go_big_quiet_skip | quiet_step (first | (go_at_call 104; with_reducible refine Calls.regrown_of (zaE _ _))))
    refine wpQuiet_nil ?_
    intro w1 hw2
    obtain ⟨⟨dq, osq⟩, hw2⟩ := hw2
    have hbq : Below (w.alloc (.cells #[.int .i64 f.kind, .int .i64 f.lit.atom.kind, .string f.lit.atom.a.name, .slice a3 f.lit.atom.a.kids.length c3, .string f.lit.atom.b.name, .slice a5 f.lit.atom.b.kids.length c5, .slice a6 f.lit.atom.nums.length c6, .slice a7 f.lit.atom.times.length c7, .int .i64 f.lit.atom.bound, .bool f.lit.atom.strict, .bool f.lit.no, .slice a11 f.kids.length c11] 60)).heap.size (w.alloc (.cells #[.int .i64 f.kind, .int .i64 f.lit.atom.kind, .string f.lit.atom.a.name, .slice a3 f.lit.atom.a.kids.length c3, .string f.lit.atom.b.name, .slice a5 f.lit.atom.b.kids.length c5, .slice a6 f.lit.atom.nums.length c6, .slice a7 f.lit.atom.times.length c7, .int .i64 f.lit.atom.bound, .bool f.lit.atom.strict, .bool f.lit.no, .slice a11 f.kids.length c11] 60)) w1 := hw2 ▸ below_regrown (w.alloc (.cells #[.int .i64 f.kind, .int .i64 f.lit.atom.kind, .string f.lit.atom.a.name, .slice a3 f.lit.atom.a.kids.length c3, .string f.lit.atom.b.name, .slice a5 f.lit.atom.b.kids.length c5, .slice a6 f.lit.atom.nums.length c6, .slice a7 f.lit.atom.times.length c7, .int .i64 f.lit.atom.bound, .bool f.lit.atom.strict, .bool f.lit.no, .slice a11 f.kids.length c11] 60)) dq osq
    clear hw2 qC0 qC11
    have hbx := zg (n := w.heap.size + 1) hbq (by simp)
    clear hbq
    obtain ⟨hx, hz1, hb⟩ := box1 (w := w) (wr := w1) (cs := #[.int .i64 f.kind, .int .i64 f.lit.atom.kind, .string f.lit.atom.a.name, .slice a3 f.lit.atom.a.kids.length c3, .string f.lit.atom.b.name, .slice a5 f.lit.atom.b.kids.length c5, .slice a6 f.lit.atom.nums.length c6, .slice a7 f.lit.atom.times.length c7, .int .i64 f.lit.atom.bound, .bool f.lit.atom.strict, .bool f.lit.no, .slice a11 f.kids.length c11]) (T := 60) hbx
    have C0 := hx 0
    have C1 := hx 1
    have C2 := hx 2
    have C3 := hx 3
    have C4 := hx 4
    have C5 := hx 5
    have C6 := hx 6
    have C7 := hx 7
    have C8 := hx 8
    have C9 := hx 9
    have C10 := hx 10
    have C11 := hx 11
    simp only [zci, zcg, zch] at C0 C1 C2 C3 C4 C5 C6 C7 C8 C9 C10 C11
    go_wp2_with fail
    clear C0 C1 C2 C3 C4 C5 C6 C7 C8 C9 C10 C11 hx hz1 hb
    go_loopw [5] (fun i wr => ∃ k : Nat, k ≤ f.kids.length ∧ i = .int .i64 k ∧ Hid ((f.kids.take k).all (Fm.shape (deep.toNat - 1)) = true) ∧ Below (w.heap.size + 1) (w.alloc (.cells #[.int .i64 f.kind, .int .i64 f.lit.atom.kind, .string f.lit.atom.a.name, .slice a3 f.lit.atom.a.kids.length c3, .string f.lit.atom.b.name, .slice a5 f.lit.atom.b.kids.length c5, .slice a6 f.lit.atom.nums.length c6, .slice a7 f.lit.atom.times.length c7, .int .i64 f.lit.atom.bound, .bool f.lit.atom.strict, .bool f.lit.no, .slice a11 f.kids.length c11] 60)) wr) (fun i _ => f.kids.length - (intOf i).toNat)
    case atStart => exact ⟨0, Nat.zero_le _, rfl, Lib.hid (by simp), hbx⟩
    case round =>
      clear hbx
      obtain ⟨k, hkl, rfl, hall, hbx⟩ := hrel
      obtain ⟨hx, hz1, hb⟩ := box1 (w := w) (wr := wr) (cs := #[.int .i64 f.kind, .int .i64 f.lit.atom.kind, .string f.lit.atom.a.name, .slice a3 f.lit.atom.a.kids.length c3, .string f.lit.atom.b.name, .slice a5 f.lit.atom.b.kids.length c5, .slice a6 f.lit.atom.nums.length c6, .slice a7 f.lit.atom.times.length c7, .int .i64 f.lit.atom.bound, .bool f.lit.atom.strict, .bool f.lit.no, .slice a11 f.kids.length c11]) (T := 60) hbx
      have C0 := hx 0
      have C1 := hx 1
      have C2 := hx 2
      have C3 := hx 3
      have C4 := hx 4
      have C5 := hx 5
      have C6 := hx 6
      have C7 := hx 7
      have C8 := hx 8
      have C9 := hx 9
      have C10 := hx 10
      have C11 := hx 11
      simp only [zci, zcg, zch] at C0 C1 C2 C3 C4 C5 C6 C7 C8 C9 C10 C11
      have hz := hb.size
      by_cases hlt : k < f.kids.length
      · obtain ⟨b, off, rfl, hbs, _⟩ := zk m9 (by omega)
        obtain ⟨b3, e3, g3, b5, e5, g5, b6, e6, g6, b7, e7, g7, b11, e11, g11, d0, d1, d2, d3, d4, d5, d6, d7, d8, d9, d10, d11, n0, n1, n2, n3, n4, n5, n6, n7, n8, n9, _⟩ := Fm.at (m9.below hb) hlt
        have hbz : b < wr.heap.size := by omega
        have hle := zj Fm.cd f.kids (k + 1)
        rw [zm Fm.cd f.kids k hlt] at hle
        have HDD := Lib.hid (show (deep - 1).toNat = deep.toNat - 1 by omega)
        go_wp2_with fail
        refine (IH.out f.kids[k] (deep - 1) _ _ _ (HN.out _ (zcm hlt)) (by omega) (by omega) (by omega) (by exact (Fm.close n0 n1 n2 n3 n4 n5 n6 n7 n8 n9))).mono ?_
        rintro e w2 ⟨rfl, hb2⟩
        rw [HDD.out]
        cases hs : Fm.shape (deep.toNat - 1) f.kids[k]
        · have HE : Hid (Fm.shape deep.toNat f = false) := Lib.hid (by
            rw [HE0.out, Fm.shapes_all]
            have : f.kids.all (Fm.shape (deep.toNat - 1)) = false := by rw [List.all_eq_false]; exact ⟨f.kids[k], zcm hlt, by simp [hs]⟩
            rw [this]; rfl)
          clear hs
          go_wp2_with fail
          go_ret
          exact ⟨retB HE.out.symm, hb.trans (hb2.mono hz)⟩
        · have HA : Hid ((f.kids.take (k + 1)).all (Fm.shape (deep.toNat - 1)) = true) := Lib.hid (by rw [zck hlt, List.all_append, hall.out]; simp [hs])
          clear hs
          go_wp2_with fail
          go_roundw
          case rel => exact ⟨k + 1, by omega, by go_num, HA, hbx.trans (hb2.mono (by omega))⟩
          case measure => simp [intOf]; omega
      · have he : f.kids.take k = f.kids := List.take_of_length_le (by omega)
        rw [he] at hall
        have HE : Hid (Fm.shape deep.toNat f = f.lit.bare) := Lib.hid (by rw [HE0.out, Fm.shapes_all, hall.out]; rfl)
        clear he
        go_wp2_with fail
        refine (zbH f.lit _ _ _ (by exact hli.below hb)).mono ?_
        rintro e w2 ⟨rfl, hb2⟩
        go_wp2_with fail
        go_ret
        exact ⟨retB HE.out.symm, hb.trans (hb2.mono hz)⟩
theorem l9Many_n (n : Nat) : ∀ (f : Fm) (deep : Int) (vs : List Value) (ff : List Nat) (w : World), ndV f.cd ≤ n → wtV f.cd ≤ 1048576 → 0 ≤ deep → deep ≤ 5 → RdVs w f.cd vs ff →
    Calls Tryd.prog 82 #[.agg vs.toArray, .int .i64 deep] w fun e w' => e = .returned (.int .i64 ((Fm.many deep.toNat f : Nat) : Int)) ∧ Below w.heap.size w w' := by
  induction n with
  | zero =>
    intro f deep vs ff w hn; have h : 0 < ndV f.cd := by rw [Fm.cd_eq]; simp [ndV, ndC]; try omega
    omega
  | succ n ih =>
  intro f deep vs ff w hn hbig hd0 hd5 hv
  have HN : Hid (∀ k ∈ f.kids, ndV k.cd ≤ n) := fun k hk => by have := Fm.kid_nd hk; omega
  have IH := Lib.hid ih
  clear ih
  obtain ⟨a3, c3, f3, a5, c5, f5, a6, c6, f6, a7, c7, f7, a11, c11, f11, rfl, -, m0, m1, m2, m3, m4, m5, m6, m7, m8, m9⟩ := Fm.open hv
  clear hv
  have hw := Nat.le_of_eq (Fm.wt_eq f).symm
  have hE := Fm.many_eq deep.toNat f
  by_cases hd : 0 < deep
  · rw [if_pos (by omega)] at hE
    have HE := Lib.hid hE
    clear hE
    go_enter Tryd.func82, Tryd.ntmps82
    go_wp2_with fail
    go_loopw [5, 6] (fun nv i wr => ∃ k : Nat, k ≤ f.kids.length ∧ i = .int .i64 k ∧ nv = .int .i64 ((1 + Fm.manys (deep.toNat - 1) (f.kids.take k) : Nat) : Int) ∧ Below (w.heap.size + 1) (w.alloc (.cells #[.int .i64 f.kind, .int .i64 f.lit.atom.kind, .string f.lit.atom.a.name, .slice a3 f.lit.atom.a.kids.length c3, .string f.lit.atom.b.name, .slice a5 f.lit.atom.b.kids.length c5, .slice a6 f.lit.atom.nums.length c6, .slice a7 f.lit.atom.times.length c7, .int .i64 f.lit.atom.bound, .bool f.lit.atom.strict, .bool f.lit.no, .slice a11 f.kids.length c11] 60)) wr) (fun _ i _ => f.kids.length - (intOf i).toNat)
    case atStart => exact ⟨0, Nat.zero_le _, rfl, by simp [Fm.manys], Below.refl _ _⟩
    case round =>
      obtain ⟨k, hkl, rfl, rfl, hbx⟩ := hrel
      obtain ⟨hx, hz1, hb⟩ := box1 (w := w) (wr := wr) (cs := #[.int .i64 f.kind, .int .i64 f.lit.atom.kind, .string f.lit.atom.a.name, .slice a3 f.lit.atom.a.kids.length c3, .string f.lit.atom.b.name, .slice a5 f.lit.atom.b.kids.length c5, .slice a6 f.lit.atom.nums.length c6, .slice a7 f.lit.atom.times.length c7, .int .i64 f.lit.atom.bound, .bool f.lit.atom.strict, .bool f.lit.no, .slice a11 f.kids.length c11]) (T := 60) hbx
      have C0 := hx 0
      have C1 := hx 1
      have C2 := hx 2
      have C3 := hx 3
      have C4 := hx 4
      have C5 := hx 5
      have C6 := hx 6
      have C7 := hx 7
      have C8 := hx 8
      have C9 := hx 9
      have C10 := hx 10
      have C11 := hx 11
      simp only [zci, zcg, zch] at C0 C1 C2 C3 C4 C5 C6 C7 C8 C9 C10 C11
      have hz := hb.size
      have bd1 := Fm.manys_le (f.kids.take k) (deep.toNat - 1)
      have bd3 := zj Fm.cd f.kids k
      rw [← List.map_take] at bd3
      have bd4 : (f.kids.take k).length ≤ f.kids.length := by simp; omega
      by_cases hlt : k < f.kids.length
      · obtain ⟨b, off, rfl, hbs, _⟩ := zk m9 (by omega)
        obtain ⟨b3, e3, g3, b5, e5, g5, b6, e6, g6, b7, e7, g7, b11, e11, g11, d0, d1, d2, d3, d4, d5, d6, d7, d8, d9, d10, d11, n0, n1, n2, n3, n4, n5, n6, n7, n8, n9, _⟩ := Fm.at (m9.below hb) hlt
        have hbz : b < wr.heap.size := by omega
        have hle := zj Fm.cd f.kids (k + 1)
        rw [zm Fm.cd f.kids k hlt] at hle
        have bd2 := Fm.many_le f.kids[k] (deep.toNat - 1)
        have HDD := Lib.hid (show (deep - 1).toNat = deep.toNat - 1 by omega)
        go_wp2_with fail
        refine (IH.out f.kids[k] (deep - 1) _ _ _ (HN.out _ (zcm hlt)) (by omega) (by omega) (by omega) (by exact (Fm.close n0 n1 n2 n3 n4 n5 n6 n7 n8 n9))).mono ?_
        rintro e w2 ⟨rfl, hb2⟩
        rw [HDD.out]
        go_wp2_with fail
        go_roundw
        case rel => exact ⟨k + 1, by omega, by go_num, by rw [Fm.manys_succ _ _ _ hlt]; go_num, hbx.trans (hb2.mono (by omega))⟩
        case measure => simp [intOf]; omega
      · have he : f.kids.take k = f.kids := List.take_of_length_le (by omega)
        rw [he]
        rw [he] at bd1 bd3 bd4
        clear he
        go_wp2_with fail
        go_ret
        exact ⟨retI (by rw [HE.out]; try rfl), hb⟩
  · rw [if_neg (by omega)] at hE
    have HE := Lib.hid hE
    clear hE
    have hdz : (0 < deep) = False := by simp [hd]
    go_enter Tryd.func82, Tryd.ntmps82
    go_wp2_with fail
    go_loopw [5, 6] (fun nv i wr => i = .int .i64 0 ∧ nv = .int .i64 1 ∧ Below (w.heap.size + 1) (w.alloc (.cells #[.int .i64 f.kind, .int .i64 f.lit.atom.kind, .string f.lit.atom.a.name, .slice a3 f.lit.atom.a.kids.length c3, .string f.lit.atom.b.name, .slice a5 f.lit.atom.b.kids.length c5, .slice a6 f.lit.atom.nums.length c6, .slice a7 f.lit.atom.times.length c7, .int .i64 f.lit.atom.bound, .bool f.lit.atom.strict, .bool f.lit.no, .slice a11 f.kids.length c11] 60)) wr) (fun _ i _ => 0)
    case atStart => exact ⟨rfl, rfl, Below.refl _ _⟩
    case round =>
      obtain ⟨rfl, rfl, hbx⟩ := hrel
      obtain ⟨hx, hz1, hb⟩ := box1 (w := w) (wr := wr) (cs := #[.int .i64 f.kind, .int .i64 f.lit.atom.kind, .string f.lit.atom.a.name, .slice a3 f.lit.atom.a.kids.length c3, .string f.lit.atom.b.name, .slice a5 f.lit.atom.b.kids.length c5, .slice a6 f.lit.atom.nums.length c6, .slice a7 f.lit.atom.times.length c7, .int .i64 f.lit.atom.bound, .bool f.lit.atom.strict, .bool f.lit.no, .slice a11 f.kids.length c11]) (T := 60) hbx
      have C0 := hx 0
      have C1 := hx 1
      have C2 := hx 2
      have C3 := hx 3
      have C4 := hx 4
      have C5 := hx 5
      have C6 := hx 6
      have C7 := hx 7
      have C8 := hx 8
      have C9 := hx 9
      have C10 := hx 10
      have C11 := hx 11
      simp only [zci, zcg, zch] at C0 C1 C2 C3 C4 C5 C6 C7 C8 C9 C10 C11
      by_cases hlt : 0 < f.kids.length
      · go_wp2_with fail
        go_ret
        exact ⟨retI (by rw [HE.out]; try rfl), hb⟩
      · go_wp2_with fail
        go_ret
        exact ⟨retI (by rw [HE.out]; try rfl), hb⟩
end Go.Proofs.YtoehhbkhdddeeaaDoor
end
