/- Parts of the proof: FormW. -/
import Derived.Test.YtoehhbkhdddeeaaGreatDoorPf30
import Derived.Test.YtoehhbkhdddeeaaGreatDoorPf17
import Derived.Test.YtoehhbkhdddeeaaGreatDoorPf27
import Derived.Test.YtoehhbkhdddeeaaGreatDoorPf28
section
namespace Go.Proofs.YtoehhbkhdddeeaaGreatDoor
open Go Go.RowKit
set_option linter.unusedVariables false
set_option linter.unusedSimpArgs false
set_option maxRecDepth 100000
set_option maxHeartbeats 16000000
theorem Atm.zero_rd (w : World) : RdVs w Atm.zero.cd [.int .i64 0, .string ⟨#[]⟩, .slice none 0 0, .string ⟨#[]⟩, .slice none 0 0, .slice none 0 0, .slice none 0 0, .int .i64 0, .bool false] [] :=
 Atm.close (w := w) (x := Atm.zero) (a2 := none) (c2 := 0) (f2 := []) (a4 := none) (c4 := 0) (f4 := []) (a5 := none) (c5 := 0) (f5 := []) (a6 := none) (c6 := 0) (f6 := []) (by simp [I64, Atm.zero]) (Nat.zero_le _) (zde w Tm.cd) (Nat.zero_le _) (zde w Tm.cd) (zde w Tm.cd) (zde w zm) (by simp [I64, Atm.zero])
theorem zaH (k : Int) (w : World) : Calls Tryz.prog 35 #[.int .i64 k] w fun e w' => e = .returned (.int .i64 (Fm.nk k)) ∧ w = w' := by
 by_cases h1 : k = 1
 ·subst h1
  go_enter Tryz.func35, Tryz.ntmps35
  go_wp2_with fail
  go_ret
  exact ⟨rfl, rfl⟩
 by_cases h2 : k = 2
 ·subst h2
  go_enter Tryz.func35, Tryz.ntmps35
  go_wp2_with fail
  go_ret
  exact ⟨rfl, rfl⟩
 by_cases h3 : k = 3
 ·subst h3
  go_enter Tryz.func35, Tryz.ntmps35
  go_wp2_with fail
  go_ret
  exact ⟨rfl, rfl⟩
 by_cases h4 : k = 4
 ·subst h4
  go_enter Tryz.func35, Tryz.ntmps35
  go_wp2_with fail
  go_ret
  exact ⟨rfl, rfl⟩
 by_cases h5 : k = 5
 ·subst h5
  go_enter Tryz.func35, Tryz.ntmps35
  go_wp2_with fail
  go_ret
  exact ⟨rfl, rfl⟩
 by_cases h6 : k = 6
 ·subst h6
  go_enter Tryz.func35, Tryz.ntmps35
  go_wp2_with fail
  go_ret
  exact ⟨rfl, rfl⟩
 have HN := Lib.hid (show Fm.nk k = -1 by unfold Fm.nk; rw [if_neg h1, if_neg h2, if_neg h3, if_neg h4, if_neg h5, if_neg h6])
 have t1 : (k == 1) = false := by simp [h1]
 have t2 : (k == 2) = false := by simp [h2]
 have t3 : (k == 3) = false := by simp [h3]
 have t4 : (k == 4) = false := by simp [h4]
 have t5 : (k == 5) = false := by simp [h5]
 have t6 : (k == 6) = false := by simp [h6]
 clear h1 h2 h3 h4 h5 h6
 go_enter Tryz.func35, Tryz.ntmps35
 go_wp2_with fail
 go_ret
 exact ⟨retI HN.out.symm, rfl⟩
theorem zcN (x : Lt) (vs : List Value) (f : List Nat) (w : World) (hv : RdVs w x.cd vs f) : Calls Tryz.prog 37 #[.agg vs.toArray] w fun e w' => e = .returned (.bool x.bare) ∧ Below w.heap.size w w' := by
 obtain ⟨a2, c2, f2, a4, c4, f4, a5, c5, f5, a6, c6, f6, rfl, _, m0, m1, m2, m3, m4, m5, m6, m7⟩ := Lt.open hv
 have hat := Atm.close m0 m1 m2 m3 m4 m5 m6 m7
 cases hno : x.no
 ·have HB := Lib.hid (show x.bare = eqV x.atom.cd Atm.zero.cd by unfold Lt.bare; rw [hno]; simp)
  go_enter Tryz.func37, Tryz.ntmps37
  go_wp2_with fail
  refine (zbw x.atom Atm.zero _ _ _ _ _ (by exact hat.below (za _ _)) (by exact Atm.zero_rd _)).mono ?_
  rintro e w1 ⟨rfl, hb⟩
  go_wp2_with fail
  go_ret
  exact ⟨retB HB.out.symm, (za _ _).trans (hb.mono (by simp))⟩
 ·have HB := Lib.hid (show x.bare = false by unfold Lt.bare; rw [hno]; simp)
  go_enter Tryz.func37, Tryz.ntmps37
  go_wp2_with fail
  go_ret
  exact ⟨retB HB.out.symm, za _ _⟩
theorem zdz (n : Nat) : ∀ (f : Fm) (deep : Int) (vs : List Value) (ff : List Nat) (w : World), ndV f.cd ≤ n → wtV f.cd ≤ 1048576 → 0 ≤ deep → deep ≤ 6 → RdVs w f.cd vs ff →
  Calls Tryz.prog 24 #[.agg vs.toArray, .int .i64 deep] w fun e w' => e = .returned (.int .i64 ((Fm.sz deep.toNat f : Nat) : Int)) ∧ Below w.heap.size w w' := by
 induction n with
 | zero =>
  intro f deep vs ff w hn; have h : 0 < ndV f.cd := by rw [Fm.cd_eq]; simp [ndV, ndC]; try omega
  omega
 | succ n ih =>
 intro f deep vs ff w hn hbig hd0 hd6 hv
 have HN : Hid (∀ k ∈ f.kids, ndV k.cd ≤ n) := fun k hk => by have := Fm.kid_nd hk; omega
 have IH := Lib.hid ih
 clear ih
 obtain ⟨a3, c3, f3, a5, c5, f5, a6, c6, f6, a7, c7, f7, a11, c11, f11, rfl, -, m0, m1, m2, m3, m4, m5, m6, m7, m8, m9⟩ := Fm.open hv
 clear hv
 have hat := Atm.close (x := f.lit.atom) m1 m2 m3 m4 m5 m6 m7 m8
 have hli := Lt.close (x := f.lit) m1 m2 m3 m4 m5 m6 m7 m8
 have hw := Fm.wt_eq f
 have hE := Fm.sz_eq deep.toNat f
 by_cases hd : 5 < deep
 ·rw [if_pos (.inl (by omega))] at hE
  have HE := Lib.hid hE
  clear hE
  go_enter Tryz.func24, Tryz.ntmps24
  go_wp2_with fail
  refine (zaH _ _).mono ?_
  rintro e w1 ⟨rfl, rfl⟩
  go_wp2_with fail
  go_ret
  exact ⟨retI (by rw [HE.out]; try rfl), za _ _⟩
 by_cases hk : Fm.nk f.kind = (f.kids.length : Int)
 rotate_left
 ·rw [if_pos (.inr (.inl hk))] at hE
  have HE := Lib.hid hE
  clear hE
  have tk : (Fm.nk f.kind != (f.kids.length : Int)) = true := by simp [hk]
  clear hk
  go_enter Tryz.func24, Tryz.ntmps24
  go_wp2_with fail
  refine (zaH _ _).mono ?_
  rintro e w1 ⟨rfl, rfl⟩
  go_wp2_with fail
  go_ret
  exact ⟨retI (by rw [HE.out]; try rfl), za _ _⟩
 have tk : (Fm.nk f.kind != (f.kids.length : Int)) = false := by simp [hk]
 have hsm := Lt.small_of (x := f.lit) (by omega)
 by_cases h0 : Fm.nk f.kind = 0
 ·have t0 : (Fm.nk f.kind == 0) = true := by simp [h0]
  have t1 : (Fm.nk f.kind != 0) = false := by simp [h0]
  have HE2 := Lib.hid (show f.lit.atom.okB = false → Fm.sz deep.toNat f = 11 from fun h => by rw [hE, if_pos (.inr (.inr (.inl ⟨h0, h⟩)))])
  have HE1 := Lib.hid (show f.lit.atom.okB = true → Fm.sz deep.toNat f = 1 + Fm.szs (deep.toNat + 1) f.kids from fun h => by
   rw [hE, if_neg]; rintro (h' | h' | h' | h')
   ·omega
   ·exact h' hk
   ·rw [h] at h'; exact absurd h'.2 (by simp)
   ·exact h'.1 h0)
  clear hE h0 hk
  go_enter Tryz.func24, Tryz.ntmps24
  go_wp2_with fail
  refine (zaH _ _).mono ?_
  rintro e w1 ⟨rfl, rfl⟩
  go_wp2_with fail
  refine (zdr f.lit.atom _ _ _ hsm (by exact hat.below (za _ _))).mono ?_
  rintro e w1 ⟨rfl, hb1⟩
  obtain ⟨hx, hz1, hB⟩ := box1 (w := w) (wr := w1) (cs := #[.int .i64 f.kind, .int .i64 f.lit.atom.kind, .string f.lit.atom.a.name, .slice a3 f.lit.atom.a.kids.length c3, .string f.lit.atom.b.name, .slice a5 f.lit.atom.b.kids.length c5, .slice a6 f.lit.atom.nums.length c6, .slice a7 f.lit.atom.times.length c7, .int .i64 f.lit.atom.bound, .bool f.lit.atom.strict, .bool f.lit.no, .slice a11 f.kids.length c11]) (T := 33) (zs hb1 (by simp))
  have C0 := hx 0
  have C1 := hx 1
  have C2 := hx 2
  have C3 := hx 3
  have C4 := hx 4
  have C5 := hx 5
  have C6 := hx 6
  have C7 := hx 7
  have C8 := hx 8
  have C9 := hx 9
  have C10 := hx 10
  have C11 := hx 11
  simp only [zdP, zdN, zdO] at C0 C1 C2 C3 C4 C5 C6 C7 C8 C9 C10 C11
  clear hb1 hx
  cases hok : f.lit.atom.okB
  ·have HE := Lib.hid (HE2.out hok)
   clear hok
   go_wp2_with fail
   go_ret
   exact ⟨retI (by rw [HE.out]; try rfl), hB⟩
  have HE := Lib.hid (HE1.out hok)
  clear hok
  go_wp2_with fail
  go_loopw [6, 45] (fun nv i wr => ∃ k : Nat, k ≤ f.kids.length ∧ i = .int .i64 k ∧ nv = .int .i64 ((1 + Fm.szs (deep.toNat + 1) (f.kids.take k) : Nat) : Int) ∧ Below w.heap.size w wr) (fun _ i _ => f.kids.length - (intOf i).toNat)
  case atStart => exact ⟨0, Nat.zero_le _, rfl, rfl, hB⟩
  case round =>
   obtain ⟨k, hkl, rfl, rfl, hb⟩ := hrel
   have hz := hb.size
   have bd1 := Fm.szs_le (f.kids.take k) (deep.toNat + 1)
   have bd3 := zG Fm.cd f.kids k
   rw [← List.map_take] at bd3
   have bd4 : (f.kids.take k).length ≤ f.kids.length := by simp; omega
   by_cases hlt : k < f.kids.length
   ·obtain ⟨b, off, rfl, hbs, _⟩ := zl m9 (by omega)
    obtain ⟨b3, e3, g3, b5, e5, g5, b6, e6, g6, b7, e7, g7, b11, e11, g11, d0, d1, d2, d3, d4, d5, d6, d7, d8, d9, d10, d11, n0, n1, n2, n3, n4, n5, n6, n7, n8, n9, _⟩ := Fm.at (m9.below hb) hlt
    have hbz : b < wr.heap.size := by omega
    have hle := zG Fm.cd f.kids (k + 1)
    rw [zW Fm.cd f.kids k hlt] at hle
    have bd2 := Fm.sz_le f.kids[k] (deep.toNat + 1)
    have hdd : (deep + 1).toNat = deep.toNat + 1 := by omega
    have HDD := Lib.hid hdd
    clear hdd
    go_wp2_with fail
    refine (IH.out f.kids[k] (deep + 1) _ _ _ (HN.out _ (zdT hlt)) (by omega) (by omega) (by omega) (by exact (Fm.close n0 n1 n2 n3 n4 n5 n6 n7 n8 n9).below (za _ _))).mono ?_
    rintro e w2 ⟨rfl, hb2⟩
    rw [HDD.out]
    go_wp2_with fail
    go_roundw
    case rel => exact ⟨k + 1, by omega, by go_num, by rw [Fm.szs_succ _ _ _ hlt]; go_num, (hb.alloc hz _).trans (hb2.mono (by simp; omega))⟩
    case measure => simp [intOf]; omega
   ·have he : f.kids.take k = f.kids := List.take_of_length_le (by omega)
    rw [he]
    rw [he] at bd1 bd3 bd4
    go_wp2_with fail
    go_ret
    exact ⟨retI (by rw [HE.out]; try rfl), hb⟩
 ·have t0 : (Fm.nk f.kind == 0) = false := by simp [h0]
  have t1 : (Fm.nk f.kind != 0) = true := by simp [h0]
  have HE2 := Lib.hid (show f.lit.bare = false → Fm.sz deep.toNat f = 11 from fun h => by rw [hE, if_pos (.inr (.inr (.inr ⟨h0, h⟩)))])
  have HE1 := Lib.hid (show f.lit.bare = true → Fm.sz deep.toNat f = 1 + Fm.szs (deep.toNat + 1) f.kids from fun h => by
   rw [hE, if_neg]; rintro (h' | h' | h' | h')
   ·omega
   ·exact h' hk
   ·exact h0 h'.1
   ·rw [h] at h'; exact absurd h'.2 (by simp))
  clear hE h0 hk
  go_enter Tryz.func24, Tryz.ntmps24
  go_wp2_with fail
  refine (zaH _ _).mono ?_
  rintro e w1 ⟨rfl, rfl⟩
  go_wp2_with fail
  refine (zcN f.lit _ _ _ (by exact hli.below (za _ _))).mono ?_
  rintro e w1 ⟨rfl, hb1⟩
  obtain ⟨hx, hz1, hB⟩ := box1 (w := w) (wr := w1) (cs := #[.int .i64 f.kind, .int .i64 f.lit.atom.kind, .string f.lit.atom.a.name, .slice a3 f.lit.atom.a.kids.length c3, .string f.lit.atom.b.name, .slice a5 f.lit.atom.b.kids.length c5, .slice a6 f.lit.atom.nums.length c6, .slice a7 f.lit.atom.times.length c7, .int .i64 f.lit.atom.bound, .bool f.lit.atom.strict, .bool f.lit.no, .slice a11 f.kids.length c11]) (T := 33) (zs hb1 (by simp))
  have C0 := hx 0
  have C1 := hx 1
  have C2 := hx 2
  have C3 := hx 3
  have C4 := hx 4
  have C5 := hx 5
  have C6 := hx 6
  have C7 := hx 7
  have C8 := hx 8
  have C9 := hx 9
  have C10 := hx 10
  have C11 := hx 11
  simp only [zdP, zdN, zdO] at C0 C1 C2 C3 C4 C5 C6 C7 C8 C9 C10 C11
  clear hb1 hx
  cases hok : f.lit.bare
  ·have HE := Lib.hid (HE2.out hok)
   clear hok
   go_wp2_with fail
   go_ret
   exact ⟨retI (by rw [HE.out]; try rfl), hB⟩
  have HE := Lib.hid (HE1.out hok)
  clear hok
  go_wp2_with fail
  go_loopw [6, 45] (fun nv i wr => ∃ k : Nat, k ≤ f.kids.length ∧ i = .int .i64 k ∧ nv = .int .i64 ((1 + Fm.szs (deep.toNat + 1) (f.kids.take k) : Nat) : Int) ∧ Below w.heap.size w wr) (fun _ i _ => f.kids.length - (intOf i).toNat)
  case atStart => exact ⟨0, Nat.zero_le _, rfl, rfl, hB⟩
  case round =>
   obtain ⟨k, hkl, rfl, rfl, hb⟩ := hrel
   have hz := hb.size
   have bd1 := Fm.szs_le (f.kids.take k) (deep.toNat + 1)
   have bd3 := zG Fm.cd f.kids k
   rw [← List.map_take] at bd3
   have bd4 : (f.kids.take k).length ≤ f.kids.length := by simp; omega
   by_cases hlt : k < f.kids.length
   ·obtain ⟨b, off, rfl, hbs, _⟩ := zl m9 (by omega)
    obtain ⟨b3, e3, g3, b5, e5, g5, b6, e6, g6, b7, e7, g7, b11, e11, g11, d0, d1, d2, d3, d4, d5, d6, d7, d8, d9, d10, d11, n0, n1, n2, n3, n4, n5, n6, n7, n8, n9, _⟩ := Fm.at (m9.below hb) hlt
    have hbz : b < wr.heap.size := by omega
    have hle := zG Fm.cd f.kids (k + 1)
    rw [zW Fm.cd f.kids k hlt] at hle
    have bd2 := Fm.sz_le f.kids[k] (deep.toNat + 1)
    have hdd : (deep + 1).toNat = deep.toNat + 1 := by omega
    have HDD := Lib.hid hdd
    clear hdd
    go_wp2_with fail
    refine (IH.out f.kids[k] (deep + 1) _ _ _ (HN.out _ (zdT hlt)) (by omega) (by omega) (by omega) (by exact (Fm.close n0 n1 n2 n3 n4 n5 n6 n7 n8 n9).below (za _ _))).mono ?_
    rintro e w2 ⟨rfl, hb2⟩
    rw [HDD.out]
    go_wp2_with fail
    go_roundw
    case rel => exact ⟨k + 1, by omega, by go_num, by rw [Fm.szs_succ _ _ _ hlt]; go_num, (hb.alloc hz _).trans (hb2.mono (by simp; omega))⟩
    case measure => simp [intOf]; omega
   ·have he : f.kids.take k = f.kids := List.take_of_length_le (by omega)
    rw [he]
    rw [he] at bd1 bd3 bd4
    go_wp2_with fail
    go_ret
    exact ⟨retI (by rw [HE.out]; try rfl), hb⟩
theorem zdA (f : Fm) (deep : Int) (vs : List Value) (ff : List Nat) (w : World) (hbig : wtV f.cd ≤ 1048576) (h0 : 0 ≤ deep) (h6 : deep ≤ 6) (hv : RdVs w f.cd vs ff) :
  Calls Tryz.prog 24 #[.agg vs.toArray, .int .i64 deep] w fun e w' => e = .returned (.int .i64 ((Fm.sz deep.toNat f : Nat) : Int)) ∧ Below w.heap.size w w' := zdz _ f deep vs ff w (Nat.le_refl _) hbig h0 h6 hv
end Go.Proofs.YtoehhbkhdddeeaaGreatDoor
end
