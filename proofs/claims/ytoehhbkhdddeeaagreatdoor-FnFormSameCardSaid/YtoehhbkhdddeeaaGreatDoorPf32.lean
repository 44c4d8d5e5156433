/- Parts of the proof: OwnF FormA. -/
import Derived.Test.YtoehhbkhdddeeaaGreatDoorPf11
import Derived.Test.YtoehhbkhdddeeaaGreatDoorPf28
import Derived.Test.YtoehhbkhdddeeaaGreatDoorPf27
import Derived.Test.YtoehhbkhdddeeaaGreatDoorPf31
namespace Go.Proofs.YtoehhbkhdddeeaaGreatDoor
open Go Go.RowKit
set_option linter.unusedVariables false
set_option linter.unusedSimpArgs false
set_option maxHeartbeats 1600000
end Go.Proofs.YtoehhbkhdddeeaaGreatDoor
section
namespace Go.Proofs.YtoehhbkhdddeeaaGreatDoor
open Go Go.RowKit
set_option linter.unusedVariables false
set_option linter.unusedSimpArgs false
set_option maxRecDepth 100000
set_option maxHeartbeats 16000000
theorem zb0 (x y : Atm) (us : List Value) (g : List Nat) (pb : Nat) (a2 : Option Addr) (c2 : Nat) (a4 : Option Addr) (c4 : Nat) (a5 : Option Addr) (c5 : Nat) (a6 : Option Addr) (c6 : Nat) (f : List Nat) (w : World) (hp : ∀ j, w.cell? ⟨pb, j, none⟩ = (#[.int .i64 x.kind, .string x.a.name, .slice a2 x.a.kids.length c2, .string x.b.name, .slice a4 x.b.kids.length c4, .slice a5 x.nums.length c5, .slice a6 x.times.length c6, .int .i64 x.bound, .bool x.strict] : Array Value)[j]?) (hx : RdVs w x.cd [.int .i64 x.kind, .string x.a.name, .slice a2 x.a.kids.length c2, .string x.b.name, .slice a4 x.b.kids.length c4, .slice a5 x.nums.length c5, .slice a6 x.times.length c6, .int .i64 x.bound, .bool x.strict] f) (hy : RdVs w y.cd us g) :
  Calls Tryz.prog 56 #[.agg us.toArray, .pointer (some ⟨pb, 0, none⟩)] w fun e w' => e = .returned (.bool (eqV x.cd y.cd)) ∧ Below w.heap.size w w' := by
 have hpz : pb < w.heap.size := World.block_lt_of_cell? w _ (hp 0)
 obtain ⟨a2y, c2y, f2y, a4y, c4y, f4y, a5y, c5y, f5y, a6y, c6y, f6y, rfl, -, m0y, m1y, m2y, m3y, m4y, m5y, m6y, m7y⟩ := Atm.open hy
 have hp' := zf hp hpz (za w (.cells #[.int .i64 y.kind, .string y.a.name, .slice a2y y.a.kids.length c2y, .string y.b.name, .slice a4y y.b.kids.length c4y, .slice a5y y.nums.length c5y, .slice a6y y.times.length c6y, .int .i64 y.bound, .bool y.strict] 28))
 have C0 := hp' 0
 have C1 := hp' 1
 have C2 := hp' 2
 have C3 := hp' 3
 have C4 := hp' 4
 have C5 := hp' 5
 have C6 := hp' 6
 have C7 := hp' 7
 have C8 := hp' 8
 simp only [zdP, zdN, zdO] at C0 C1 C2 C3 C4 C5 C6 C7 C8
 clear hp hp'
 go_enter Tryz.func56, Tryz.ntmps56
 go_wp2_with fail
 refine (zbw x y _ _ _ _ _ (by exact hx.below (za _ _)) (by exact hy.below (za _ _))).mono ?_
 rintro e w1 ⟨rfl, hb1⟩
 go_wp2_with fail
 go_ret
 exact ⟨rfl, (za _ _).trans (hb1.mono (by simp))⟩
theorem zbg (x : Atm) (l : List Atm) (v : Value) (g : List Nat) (pb : Nat) (a2 : Option Addr) (c2 : Nat) (a4 : Option Addr) (c4 : Nat) (a5 : Option Addr) (c5 : Nat) (a6 : Option Addr) (c6 : Nat) (f : List Nat) (w : World) (hp : ∀ j, w.cell? ⟨pb, j, none⟩ = (#[.int .i64 x.kind, .string x.a.name, .slice a2 x.a.kids.length c2, .string x.b.name, .slice a4 x.b.kids.length c4, .slice a5 x.nums.length c5, .slice a6 x.times.length c6, .int .i64 x.bound, .bool x.strict] : Array Value)[j]?) (hx : RdVs w x.cd [.int .i64 x.kind, .string x.a.name, .slice a2 x.a.kids.length c2, .string x.b.name, .slice a4 x.b.kids.length c4, .slice a5 x.nums.length c5, .slice a6 x.times.length c6, .int .i64 x.bound, .bool x.strict] f) (hl : Rd w (.sl (l.map Atm.cd)) v g) :
  Calls Tryz.prog 55 #[v, .func (.func 56) #[] #[.pointer (some ⟨pb, 0, none⟩)]] w fun e w' => (∃ n, e = .returned (.int .i64 n) ∧ FirstOf (fun y => eqV y.cd x.cd) l n) ∧ Below w.heap.size w w' := by
 obtain ⟨a, cap, rfl, hc1, hc2⟩ := ze hl
 have hpz : pb < w.heap.size := World.block_lt_of_cell? w _ (hp 0)
 go_enter Tryz.func55, Tryz.ntmps55
 go_wp2_with fail
 go_loopw [5, 8] (fun _ i wr => ∃ k : Nat, k ≤ l.length ∧ i = .int .i64 k ∧ Hid ((l.take k).all (fun t => !eqV t.cd x.cd) = true) ∧ Below w.heap.size w wr) (fun _ i _ => l.length - (intOf i).toNat)
 case atStart => exact ⟨0, Nat.zero_le _, rfl, Lib.hid (by simp), Below.refl _ _⟩
 case round =>
  obtain ⟨k, hkl, rfl, hall, hb⟩ := hrel
  have hz := hb.size
  by_cases hlt : k < l.length
  ·obtain ⟨b, off, rfl, hbs, _⟩ := zl hl (by omega)
   obtain ⟨a2y, c2y, f2y, a4y, c4y, f4y, a5y, c5y, f5y, a6y, c6y, f6y, d0y, d1y, d2y, d3y, d4y, d5y, d6y, d7y, d8y, n0y, n1y, n2y, n3y, n4y, n5y, n6y, n7y, hsuby⟩ := Atm.at (hl.below hb) hlt
   have hbz : b < wr.heap.size := by omega
   go_wp2_with fail
   refine (zb0 x l[k] _ _ pb _ _ _ _ _ _ _ _ _ _ (zf hp hpz hb) (hx.below hb) (by exact Atm.close n0y n1y n2y n3y n4y n5y n6y n7y)).mono ?_
   rintro e w2 ⟨rfl, hb2⟩
   rw [zdf]
   cases he : eqV l[k].cd x.cd
   ·have HE := Lib.hid (FirstOf.succ hlt hall.out he)
    clear he
    go_wp2_with fail
    go_roundw
    case rel => exact ⟨k + 1, by omega, by go_num, HE, hb.trans (hb2.mono hz)⟩
    case measure => simp [intOf]; omega
   ·have HE : Hid (FirstOf (fun y => eqV y.cd x.cd) l (k : Int)) := Lib.hid (.inr ⟨k, hlt, rfl, he, hall.out⟩)
    clear he
    go_wp2_with fail
    go_ret
    exact ⟨⟨k, rfl, HE.out⟩, hb.trans (hb2.mono hz)⟩
  ·have HE : Hid (FirstOf (fun y => eqV y.cd x.cd) l (-1)) := Lib.hid (.inl ⟨rfl, by have := hall.out; rwa [List.take_of_length_le (by omega)] at this⟩)
   go_wp2_with fail
   go_ret
   exact ⟨⟨-1, rfl, HE.out⟩, hb⟩
theorem zb1 (x : Atm) (l : List Atm) (v : Value) (vs : List Value) (g f : List Nat) (w : World) (hl : Rd w (.sl (l.map Atm.cd)) v g) (hx : RdVs w x.cd vs f) :
  Calls Tryz.prog 38 #[v, .agg vs.toArray] w fun e w' => (∃ n, e = .returned (.int .i64 n) ∧ FirstOf (fun y => eqV y.cd x.cd) l n) ∧ Below w.heap.size w w' := by
 obtain ⟨a, cap, rfl, hc1, hc2⟩ := ze hl
 obtain ⟨a2, c2, f2, a4, c4, f4, a5, c5, f5, a6, c6, f6, rfl, -, m0, m1, m2, m3, m4, m5, m6, m7⟩ := Atm.open hx
 have hba := za w (.cells #[.int .i64 x.kind, .string x.a.name, .slice a2 x.a.kids.length c2, .string x.b.name, .slice a4 x.b.kids.length c4, .slice a5 x.nums.length c5, .slice a6 x.times.length c6, .int .i64 x.bound, .bool x.strict] 28)
 have hp := zx w #[.int .i64 x.kind, .string x.a.name, .slice a2 x.a.kids.length c2, .string x.b.name, .slice a4 x.b.kids.length c4, .slice a5 x.nums.length c5, .slice a6 x.times.length c6, .int .i64 x.bound, .bool x.strict] 28
 go_enter Tryz.func38, Tryz.ntmps38
 go_wp2_with fail
 refine (zbg x l _ _ _ _ _ _ _ _ _ _ _ _ _ hp (by exact hx.below hba) (by exact hl.below hba)).mono ?_
 rintro e w1 ⟨⟨n, rfl, hn⟩, hb1⟩
 have HN := Lib.hid hn
 clear hn
 go_wp2_with fail
 go_ret
 exact ⟨⟨n, rfl, HN.out⟩, hba.trans (hb1.mono hba.size)⟩
theorem zcO (n : Nat) : ∀ (f : Fm) (l : List Atm) (vs : List Value) (ff : List Nat) (lv : Value) (fp : List Nat) (base : Nat) (w : World), ndV f.cd ≤ n → wtV f.cd ≤ 1048576 → l.length + wtV f.cd ≤ 1000000000 → base ≤ w.heap.size →
   Own w base 28 9 lv (l.map Atm.cd) fp → Fresh base w fp → RdVs w f.cd vs ff → (∀ y ∈ ff, lv.ownBlock ≠ some y) →
  Calls Tryz.prog 25 #[lv, .agg vs.toArray] w fun e w' => ∃ lv' fp', e = .returned lv' ∧ Own w' base 28 9 lv' ((Fm.add l f).map Atm.cd) fp' ∧ Fresh base w' fp' ∧ Moved w lv w' lv' := by
 induction n with
 | zero =>
  intro f l vs ff lv fp base w hn; have h : 0 < ndV f.cd := by rw [Fm.cd_eq]; simp [ndV, ndC]; try omega
  omega
 | succ n ih =>
 intro f l vs ff lv fp base w hn hbig hsum hbase hown0 hfr0 hv hna0
 have HN : Hid (∀ k ∈ f.kids, ndV k.cd ≤ n) := fun k hk => by have := Fm.kid_nd hk; omega
 have IH := Lib.hid ih
 clear ih
 obtain ⟨a3, c3, f3, a5, c5, f5, a6, c6, f6, a7, c7, f7, a11, c11, f11, rfl, hff, m0, m1, m2, m3, m4, m5, m6, m7, m8, m9⟩ := Fm.open hv
 have HFF := Lib.hid hff
 clear hv hff
 have hat := Atm.close (x := f.lit.atom) m1 m2 m3 m4 m5 m6 m7 m8
 have hw := Fm.wt_eq f
 have hsm := Lt.small_of (x := f.lit) (by omega)
 have hbt := Lt.times_ok (x := f.lit) (by omega)
 have hba := za w (.cells #[.int .i64 f.kind, .int .i64 f.lit.atom.kind, .string f.lit.atom.a.name, .slice a3 f.lit.atom.a.kids.length c3, .string f.lit.atom.b.name, .slice a5 f.lit.atom.b.kids.length c5, .slice a6 f.lit.atom.nums.length c6, .slice a7 f.lit.atom.times.length c7, .int .i64 f.lit.atom.bound, .bool f.lit.atom.strict, .bool f.lit.no, .slice a11 f.kids.length c11] 33)
 have hp := zx w #[.int .i64 f.kind, .int .i64 f.lit.atom.kind, .string f.lit.atom.a.name, .slice a3 f.lit.atom.a.kids.length c3, .string f.lit.atom.b.name, .slice a5 f.lit.atom.b.kids.length c5, .slice a6 f.lit.atom.nums.length c6, .slice a7 f.lit.atom.times.length c7, .int .i64 f.lit.atom.bound, .bool f.lit.atom.strict, .bool f.lit.no, .slice a11 f.kids.length c11] 33
 have hown := hown0.below hba
 have hfr := hfr0.below hba
 clear hown0 hfr0
 have hk := m9.below hba
 have hna : ∀ y ∈ f11, lv.ownBlock ≠ some y := fun y hy => hna0 y (by rw [HFF.out]; simp [hy])
 have hE := Fm.add_eq l f
 obtain ⟨la, lc, hlv, hl1, hl2⟩ := hown.form
 rw [zdX] at hlv hl1
 subst hlv
 obtain ⟨fpr, hrd⟩ := hown.rd'
 by_cases k1 : f.kind = 1
 ·have tk : (f.kind == 1) = true := by simp [k1]
  have HE2 := Lib.hid (show hasA l f.lit.atom = false → Fm.add l f = l ++ [f.lit.atom] from fun h => by rw [hE, if_pos ⟨k1, h⟩])
  have HE1 := Lib.hid (show hasA l f.lit.atom ≠ false → Fm.add l f = Fm.adds l f.kids from fun h => by rw [hE, if_neg (fun h' => h h'.2)])
  clear hE k1
  go_enter Tryz.func25, Tryz.ntmps25
  go_wp2_with fail
  refine (zb1 f.lit.atom l _ _ _ _ _ hrd (by exact hat.below hba)).mono ?_
  rintro e w1 ⟨⟨q, rfl, hq⟩, hb1⟩
  have hbd := hq.bd
  have HNEG := Lib.hid hq.neg
  clear hq hrd
  have hB := hba.trans (hb1.mono hba.size)
  replace hown := hown.below hb1
  replace hfr := hfr.below hb1
  replace hk := hk.below hb1
  replace hp := zf hp (by simp) hb1
  have hz1 := hB.size
  clear hb1
  by_cases hq0 : q < 0
  ·have HE := Lib.hid (HE2.out (HNEG.out.1 hq0))
   go_wp2_with fail
   refine (zcL f.lit.atom _ _ _ hsm hbt (by exact hat.below hB)).mono ?_
   rintro e w3 ⟨us, fp3, rfl, hr3, hf3, hb3⟩
   obtain ⟨a2y, c2y, f2y, a4y, c4y, f4y, a5y, c5y, f5y, a6y, c6y, f6y, rfl, -, m0y, m1y, m2y, m3y, m4y, m5y, m6y, m7y⟩ := Atm.open hr3
   have hown3 := hown.below (hb3.alloc hb3.size (.cells #[.int .i64 f.lit.atom.kind, .string f.lit.atom.a.name, .slice a2y f.lit.atom.a.kids.length c2y, .string f.lit.atom.b.name, .slice a4y f.lit.atom.b.kids.length c4y, .slice a5y f.lit.atom.nums.length c5y, .slice a6y f.lit.atom.times.length c6y, .int .i64 f.lit.atom.bound, .bool f.lit.atom.strict] 28))
   have hr3' := hr3.below (za w3 (.cells #[.int .i64 f.lit.atom.kind, .string f.lit.atom.a.name, .slice a2y f.lit.atom.a.kids.length c2y, .string f.lit.atom.b.name, .slice a4y f.lit.atom.b.kids.length c4y, .slice a5y f.lit.atom.nums.length c5y, .slice a6y f.lit.atom.times.length c6y, .int .i64 f.lit.atom.bound, .bool f.lit.atom.strict] 28))
   have hz3 := hb3.size
   go_wp2_with (at_builtin; refine zq zX rfl _ _ rfl base _ _ _ rfl hown3 ⟨w3.heap.size, 0, none⟩ 1 1 [f.lit.atom.cd] [.int .i64 f.lit.atom.kind, .string f.lit.atom.a.name, .slice a2y f.lit.atom.a.kids.length c2y, .string f.lit.atom.b.name, .slice a4y f.lit.atom.b.kids.length c4y, .slice a5y f.lit.atom.nums.length c5y, .slice a6y f.lit.atom.times.length c6y, .int .i64 f.lit.atom.bound, .bool f.lit.atom.strict] fp3 rfl rfl ?rd ?k ?cells ?na ?bytes ?len ?base ?next)
   case rd => simpa using hr3'
   case k => simp [Atm.cd_len]
   case cells => exact zp _ _ _
   case na => exact hown.away (Nat.le_refl _) hf3
   case bytes => (try rw [zdX]); (try simp); omega
   case len => (try rw [zdX]); (try simp); omega
   case base => simp; omega
   case next =>
    intro v' w4 hown4 hg hv' hs4
    go_wp2_with fail
    go_ret
    exact ⟨v', _, rfl, by rw [HE.out]; simpa using hown4, ((Fresh.app (hfr.below hb3) hfr.lt (by omega) hf3).below (za _ _)).same hs4, Moved.after hB (Moved.after (hb3.alloc hb3.size _) ⟨hg, by simpa using hv'⟩)⟩
  ·have HE := Lib.hid (HE1.out (fun h => hq0 (HNEG.out.2 h)))
   go_wp2_with fail
   go_loopw [0, 28] (fun ov i wr => ∃ (k : Nat) (fp : List Nat), k ≤ f.kids.length ∧ i = .int .i64 k ∧ Own wr base 28 9 ov ((Fm.adds l (f.kids.take k)).map Atm.cd) fp ∧ Fresh base wr fp ∧ Moved w1 (.slice la l.length lc) wr ov) (fun _ i _ => f.kids.length - (intOf i).toNat)
   case atStart => exact ⟨0, fp, Nat.zero_le _, rfl, hown, hfr, Moved.refl _ _⟩
   case round =>
    clear hown hfr fp
    obtain ⟨k, fp, hkl, rfl, hown, hfr, hm⟩ := hrel
    have hz := Nat.le_trans hB.size hm.size
    have hln := Fm.adds_len (f.kids.take k) l
    have hle := zG Fm.cd f.kids k
    rw [← List.map_take] at hle
    have hlk : (f.kids.take k).length ≤ k := by simp; omega
    by_cases hlt : k < f.kids.length
    ·have hkr := hk.same _ (hm.same (hk.lt _) hna)
     have hka := hm.away (hk.lt _) hna
     obtain ⟨b, off, rfl, hbs, _⟩ := zl hk (by omega)
     obtain ⟨b3, e3, g3, b5, e5, g5, b6, e6, g6, b7, e7, g7, b11, e11, g11, d0, d1, d2, d3, d4, d5, d6, d7, d8, d9, d10, d11, n0, n1, n2, n3, n4, n5, n6, n7, n8, n9, hsub⟩ := Fm.at hkr hlt
     have hbz : b < wr.heap.size := zdQ hbs hm.size
     have hle2 := zG Fm.cd f.kids (k + 1)
     rw [zW Fm.cd f.kids k hlt, ← List.map_take] at hle2
     go_wp2_with fail
     refine (IH.out f.kids[k] (Fm.adds l (f.kids.take k)) _ _ _ fp base _ (HN.out _ (zdT hlt)) (by omega) (by omega) (by simp; omega) (by exact hown.below (za _ _)) (by exact hfr.below (za _ _)) (by exact (Fm.close n0 n1 n2 n3 n4 n5 n6 n7 n8 n9).below (za _ _)) (fun y hy => hka y (hsub y hy))).mono ?_
     rintro e w2 ⟨lv2, fp2, rfl, hown2, hfr2, hm2⟩
     go_wp2_with fail
     go_roundw
     case rel => exact ⟨k + 1, fp2, by omega, by go_num, by rw [Fm.adds_succ _ _ _ hlt]; exact hown2, hfr2, hm.trans (Moved.after (za _ _) hm2)⟩
     case measure => simp [intOf]; omega
    ·have he : f.kids.take k = f.kids := List.take_of_length_le (by omega)
     rw [he] at hown
     go_wp2_with fail
     go_ret
     exact ⟨_, fp, rfl, by rw [HE.out]; exact hown, hfr, Moved.after hB hm⟩
 ·have tk : (f.kind == 1) = false := by simp [k1]
  have HE := Lib.hid (show Fm.add l f = Fm.adds l f.kids by rw [hE, if_neg (fun h => k1 h.1)])
  clear hE k1
  go_enter Tryz.func25, Tryz.ntmps25
  go_wp2_with fail
  go_loopw [0, 28] (fun ov i wr => ∃ (k : Nat) (fp : List Nat), k ≤ f.kids.length ∧ i = .int .i64 k ∧ Own wr base 28 9 ov ((Fm.adds l (f.kids.take k)).map Atm.cd) fp ∧ Fresh base wr fp ∧ Moved _ (.slice la l.length lc) wr ov) (fun _ i _ => f.kids.length - (intOf i).toNat)
  case atStart => exact ⟨0, fp, Nat.zero_le _, rfl, hown, hfr, Moved.refl _ _⟩
  case round =>
   clear hown hfr fp
   obtain ⟨k, fp, hkl, rfl, hown, hfr, hm⟩ := hrel
   have hz := Nat.le_trans hba.size hm.size
   have hln := Fm.adds_len (f.kids.take k) l
   have hle := zG Fm.cd f.kids k
   rw [← List.map_take] at hle
   have hlk : (f.kids.take k).length ≤ k := by simp; omega
   by_cases hlt : k < f.kids.length
   ·have hkr := hk.same _ (hm.same (hk.lt _) hna)
    have hka := hm.away (hk.lt _) hna
    obtain ⟨b, off, rfl, hbs, _⟩ := zl hk (by omega)
    obtain ⟨b3, e3, g3, b5, e5, g5, b6, e6, g6, b7, e7, g7, b11, e11, g11, d0, d1, d2, d3, d4, d5, d6, d7, d8, d9, d10, d11, n0, n1, n2, n3, n4, n5, n6, n7, n8, n9, hsub⟩ := Fm.at hkr hlt
    have hbz : b < wr.heap.size := zdQ hbs hm.size
    have hle2 := zG Fm.cd f.kids (k + 1)
    rw [zW Fm.cd f.kids k hlt, ← List.map_take] at hle2
    go_wp2_with fail
    refine (IH.out f.kids[k] (Fm.adds l (f.kids.take k)) _ _ _ fp base _ (HN.out _ (zdT hlt)) (by omega) (by omega) (by simp; omega) (by exact hown.below (za _ _)) (by exact hfr.below (za _ _)) (by exact (Fm.close n0 n1 n2 n3 n4 n5 n6 n7 n8 n9).below (za _ _)) (fun y hy => hka y (hsub y hy))).mono ?_
    rintro e w2 ⟨lv2, fp2, rfl, hown2, hfr2, hm2⟩
    go_wp2_with fail
    go_roundw
    case rel => exact ⟨k + 1, fp2, by omega, by go_num, by rw [Fm.adds_succ _ _ _ hlt]; exact hown2, hfr2, hm.trans (Moved.after (za _ _) hm2)⟩
    case measure => simp [intOf]; omega
   ·have he : f.kids.take k = f.kids := List.take_of_length_le (by omega)
    rw [he] at hown
    go_wp2_with fail
    go_ret
    exact ⟨_, fp, rfl, by rw [HE.out]; exact hown, hfr, Moved.after hba hm⟩
end Go.Proofs.YtoehhbkhdddeeaaGreatDoor
end
