/- Parts of the proof: OwnF FormA FormB. -/
import Derived.Test.YtbfinjiledfpcaaGreatPb12
import Derived.Test.YtbfinjiledfpcaaGreatPb21
import Derived.Test.YtbfinjiledfpcaaGreatPb20
import Derived.Test.YtbfinjiledfpcaaGreatPb30
namespace Go.Proofs.YtbfinjiledfpcaaGreat
open Go Go.RowKit
set_option linter.unusedVariables false
set_option linter.unusedSimpArgs false
set_option maxHeartbeats 1600000
theorem Lt.of_atom {w : World} {x : Lt} {vs : List Value} {f : List Nat} (h : RdVs w x.atom.cd vs f) : RdVs w x.cd (vs ++ [.bool x.no]) f := by
 have h1 := h.app (zbj (b := x.no))
 simpa [Lt.cd] using h1
theorem formOwn_n (n : Nat) : ∀ (x : Fm) (vs : List Value) (fp : List Nat) (w : World), ndV x.cd ≤ n → wtV x.cd ≤ 1048576 → RdVs w x.cd vs fp → Calls Tryz.prog 101 #[.agg vs.toArray] w (zbq x.cd w) := by
 induction n with
 | zero => intro x vs fp w hn; have h : 0 < ndV x.cd := (by rw [Fm.cd_eq]; simp [ndV, ndC]; try omega); omega
 | succ n ih =>
  intro x vs fp w hn hbig hv
  have HK : Hid (∀ k ∈ x.kids, ndV k.cd ≤ n) := fun k hk => by have := Fm.kid_nd hk; omega
  have IH := Lib.hid ih
  clear ih
  obtain ⟨a3, c3, f3, a5, c5, f5, a6, c6, f6, a7, c7, f7, a11, c11, f11, rfl, -, m0, m1, m2, m3, m4, m5, m6, m7, m8, m9⟩ := Fm.open hv
  have hw : wtV x.cd = wtV x.lit.cd + (x.kids.length + wtR (x.kids.map Fm.cd)) := by rw [Fm.cd_eq]; simp only [zK, zaV, zaz, zb2, zaq]; try omega
  rw [hw] at hbig
  clear hw hv
  go_enter Tryz.func101, Tryz.ntmps101
  go_wp2_with fail
  refine (zcE x.lit.atom _ _ _ (Lt.small_of (x := x.lit) (by omega)) (Lt.times_ok (x := x.lit) (by omega)) (by exact (Atm.close m1 m2 m3 m4 m5 m6 m7 m8).below (((Below.refl _ _).alloc (Nat.le_refl _) _).alloc (by simp) _))).mono ?_
  rintro e w1 ⟨kv1, g1, rfl, hr1, hf1, hb1⟩
  have hbx : Below (w.heap.size + 1 + 1) _ w1 := zq hb1 (by simp)
  obtain ⟨ho1, hy1, hz1, hB1⟩ := box2 hbx
  have fo1 : ∀ j, w1.frozen? ⟨w.heap.size, j, none⟩ = false := fun j => (zO hbx j).1
  have fy1 : ∀ j, w1.frozen? ⟨w.heap.size + 1, j, none⟩ = false := fun j => (zO hbx j).2
  clear hbx
  have hf1 : Fresh (w.heap.size + 1 + 1) w1 g1 := hf1.mono (by simp)
  have hF1 := hf1
  obtain ⟨b3, e3, gg1_2, b5, e5, gg1_4, b6, e6, gg1_5, b7, e7, gg1_6, rfl, -, _, _, _, _, _, _, _, _⟩ := Atm.open hr1
  clear hb1
  go_wp2_with fail
  have hoA := zw (b := w.heap.size) [(1, .int .i64 x.lit.atom.kind), (2, .string x.lit.atom.a.name), (3, .slice b3 x.lit.atom.a.kids.length e3), (4, .string x.lit.atom.b.name), (5, .slice b5 x.lit.atom.b.kids.length e5), (6, .slice b6 x.lit.atom.nums.length e6), (7, .slice b7 x.lit.atom.times.length e7), (8, .int .i64 x.lit.atom.bound), (9, .bool x.lit.atom.strict)] ho1 (by simp)
  have hyA := zaA (b' := w.heap.size) (by omega) [(1, .int .i64 x.lit.atom.kind), (2, .string x.lit.atom.a.name), (3, .slice b3 x.lit.atom.a.kids.length e3), (4, .string x.lit.atom.b.name), (5, .slice b5 x.lit.atom.b.kids.length e5), (6, .slice b6 x.lit.atom.nums.length e6), (7, .slice b7 x.lit.atom.times.length e7), (8, .int .i64 x.lit.atom.bound), (9, .bool x.lit.atom.strict)] hy1
  have fyA := zan (b' := w.heap.size) [(1, .int .i64 x.lit.atom.kind), (2, .string x.lit.atom.a.name), (3, .slice b3 x.lit.atom.a.kids.length e3), (4, .string x.lit.atom.b.name), (5, .slice b5 x.lit.atom.b.kids.length e5), (6, .slice b6 x.lit.atom.nums.length e6), (7, .slice b7 x.lit.atom.times.length e7), (8, .int .i64 x.lit.atom.bound), (9, .bool x.lit.atom.strict)] fy1
  have foA := zan (b' := w.heap.size) [(1, .int .i64 x.lit.atom.kind), (2, .string x.lit.atom.a.name), (3, .slice b3 x.lit.atom.a.kids.length e3), (4, .string x.lit.atom.b.name), (5, .slice b5 x.lit.atom.b.kids.length e5), (6, .slice b6 x.lit.atom.nums.length e6), (7, .slice b7 x.lit.atom.times.length e7), (8, .int .i64 x.lit.atom.bound), (9, .bool x.lit.atom.strict)] fo1
  have hLA := Loc.sets (b := w.heap.size) (lo := w.heap.size) (hi := w.heap.size + 1 + 1) (by omega) (by omega) [(1, .int .i64 x.lit.atom.kind), (2, .string x.lit.atom.a.name), (3, .slice b3 x.lit.atom.a.kids.length e3), (4, .string x.lit.atom.b.name), (5, .slice b5 x.lit.atom.b.kids.length e5), (6, .slice b6 x.lit.atom.nums.length e6), (7, .slice b7 x.lit.atom.times.length e7), (8, .int .i64 x.lit.atom.bound), (9, .bool x.lit.atom.strict)] (Loc.refl _ _ w1)
  have hBA := hB1.trans (hLA.toBelow (B := w.heap.size) (by omega) (Nat.le_refl _))
  have hsA := hLA.size
  try simp only [zu, zab, zfC, zfD] at hoA hyA fyA foA hLA hBA hsA
  clear hy1 ho1 fy1 fo1
  refine (zdg n IH.out x.kids _ _ _ HK.out (by omega) (by exact m9.below hBA)).mono ?_
  rintro e w2 ⟨kv2, g2, rfl, hr2, hf2, hb2⟩
  have hzA : w.heap.size + 1 + 1 ≤ _ := Nat.le_trans hz1 hsA
  have hy2 := zg hyA (by omega) hb2
  have ho2 := zg hoA (by omega) hb2
  have fy2 := zj fyA (by omega) hb2
  have fo2 := zj foA (by omega) hb2
  have hL2 : Loc w.heap.size (w.heap.size + 1 + 1) w1 w2 := hLA.below hb2
  have hz2 := Nat.le_trans hz1 hL2.size
  have hB2 := hB1.trans (hL2.toBelow (by omega) (Nat.le_refl _))
  have hf2' : Fresh w1.heap.size w2 g2 := hf2.mono hsA
  have hf2 : Fresh (w.heap.size + 1 + 1) w2 g2 := hf2'.mono hz1
  have hF2 := Fresh.app2 (hF1.same (hL2.same (w0 := w) hF1)) hF1.lt hf2' (by omega)
  have hr1 := hr1.same _ (hL2.same (w0 := w) hf1)
  have hf1 := hf1.same (hL2.same (w0 := w) hf1)
  clear hoA hyA fyA foA hLA hBA hsA hzA
  obtain ⟨b11, e11, rfl, _⟩ := zh hr2
  clear hb2
  go_upto_region 3 with (fail)
  have hoA := zw (b := w.heap.size) [(11, .slice b11 x.kids.length e11)] ho2 (by simp)
  have hyA := zaA (b' := w.heap.size) (by omega) [(11, .slice b11 x.kids.length e11)] hy2
  have fyA := zan (b' := w.heap.size) [(11, .slice b11 x.kids.length e11)] fy2
  have foA := zan (b' := w.heap.size) [(11, .slice b11 x.kids.length e11)] fo2
  have hLA := Loc.sets (b := w.heap.size) (lo := w.heap.size) (hi := w.heap.size + 1 + 1) (by omega) (by omega) [(11, .slice b11 x.kids.length e11)] (Loc.refl _ _ w2)
  simp only [zab, zfC, zfD] at hoA
  obtain ⟨wx, hwx⟩ : ∃ wx, wx = zu (w.heap.size) [(11, .slice b11 x.kids.length e11)] w2 := ⟨_, rfl⟩
  change Code.wp _ _ _ _ (zu (w.heap.size) [(11, .slice b11 x.kids.length e11)] w2)
  rw [← hwx] at hoA hyA fyA foA hLA ⊢
  have hsA := hLA.size
  clear hwx hy2 ho2 fy2 fo2
  go_wp2_with fail
  have hres := zw (b := w.heap.size + 1) [(0, .int .i64 x.kind), (1, .int .i64 x.lit.atom.kind), (2, .string x.lit.atom.a.name), (3, .slice b3 x.lit.atom.a.kids.length e3), (4, .string x.lit.atom.b.name), (5, .slice b5 x.lit.atom.b.kids.length e5), (6, .slice b6 x.lit.atom.nums.length e6), (7, .slice b7 x.lit.atom.times.length e7), (8, .int .i64 x.lit.atom.bound), (9, .bool x.lit.atom.strict), (10, .bool x.lit.no), (11, .slice b11 x.kids.length e11)] hyA (by simp)
  have hL := Loc.sets (b := w.heap.size + 1) (by omega) (by omega) [(0, .int .i64 x.kind), (1, .int .i64 x.lit.atom.kind), (2, .string x.lit.atom.a.name), (3, .slice b3 x.lit.atom.a.kids.length e3), (4, .string x.lit.atom.b.name), (5, .slice b5 x.lit.atom.b.kids.length e5), (6, .slice b6 x.lit.atom.nums.length e6), (7, .slice b7 x.lit.atom.times.length e7), (8, .int .i64 x.lit.atom.bound), (9, .bool x.lit.atom.strict), (10, .bool x.lit.no), (11, .slice b11 x.kids.length e11)] hLA
  simp only [zu, zab, zfC, zfD] at hres hL
  have hr1 := hr1.same _ (hL.same (w0 := w) hf1)
  have hr2 := hr2.same _ (hL.same (w0 := w) hf2)
  have hfin := hF2.same (hL.same (w0 := w) hF2)
  refine bodyPost_ret (v := .agg #[.int .i64 x.kind, .int .i64 x.lit.atom.kind, .string x.lit.atom.a.name, .slice b3 x.lit.atom.a.kids.length e3, .string x.lit.atom.b.name, .slice b5 x.lit.atom.b.kids.length e5, .slice b6 x.lit.atom.nums.length e6, .slice b7 x.lit.atom.times.length e7, .int .i64 x.lit.atom.bound, .bool x.lit.atom.strict, .bool x.lit.no, .slice b11 x.kids.length e11]) (by simp [results, Tryz.results101, go_sem, hres]) rfl ⟨[.int .i64 x.kind, .int .i64 x.lit.atom.kind, .string x.lit.atom.a.name, .slice b3 x.lit.atom.a.kids.length e3, .string x.lit.atom.b.name, .slice b5 x.lit.atom.b.kids.length e5, .slice b6 x.lit.atom.nums.length e6, .slice b7 x.lit.atom.times.length e7, .int .i64 x.lit.atom.bound, .bool x.lit.atom.strict, .bool x.lit.no, .slice b11 x.kids.length e11], [] ++ (g1 ++ g2), rfl, ?_, ?_, hB2.trans (hL.toBelow (by omega) (Nat.le_refl _))⟩
  ·rw [Fm.cd_eq]
   exact ((zaN m0).app ((Lt.of_atom hr1).app (RdVs.single hr2)))
  ·have hx := hfin.mono (lo' := w.heap.size) (by omega)
   simpa [List.append_assoc] using hx
theorem zdh (xs : List Fm) (v : Value) (fp0 : List Nat) (w : World) (hbig : xs.length + wtR (xs.map Fm.cd) ≤ 1048576) (hv : Rd w (.sl (xs.map Fm.cd)) v fp0) :
  Calls Tryz.prog 59 #[v] w (zcz (.sl (xs.map Fm.cd)) w) :=
 zdg (ndR (xs.map Fm.cd)) (formOwn_n _) xs v fp0 w (fun x hx => Nat.le_of_lt (zdq (List.mem_map_of_mem hx))) hbig hv
end Go.Proofs.YtbfinjiledfpcaaGreat
section
namespace Go.Proofs.YtbfinjiledfpcaaGreat
open Go Go.RowKit
set_option linter.unusedVariables false
set_option linter.unusedSimpArgs false
set_option maxRecDepth 100000
set_option maxHeartbeats 16000000
theorem zdx (x y : Atm) (us : List Value) (g : List Nat) (pb : Nat) (a2 : Option Addr) (c2 : Nat) (a4 : Option Addr) (c4 : Nat) (a5 : Option Addr) (c5 : Nat) (a6 : Option Addr) (c6 : Nat) (f : List Nat) (w : World) (hp : ∀ j, w.cell? ⟨pb, j, none⟩ = (#[.int .i64 x.kind, .string x.a.name, .slice a2 x.a.kids.length c2, .string x.b.name, .slice a4 x.b.kids.length c4, .slice a5 x.nums.length c5, .slice a6 x.times.length c6, .int .i64 x.bound, .bool x.strict] : Array Value)[j]?) (hx : RdVs w x.cd [.int .i64 x.kind, .string x.a.name, .slice a2 x.a.kids.length c2, .string x.b.name, .slice a4 x.b.kids.length c4, .slice a5 x.nums.length c5, .slice a6 x.times.length c6, .int .i64 x.bound, .bool x.strict] f) (hy : RdVs w y.cd us g) :
  Calls Tryz.prog 115 #[.agg us.toArray, .pointer (some ⟨pb, 0, none⟩)] w fun e w' => e = .returned (.bool (eqV x.cd y.cd)) ∧ Below w.heap.size w w' := by
 have hpz : pb < w.heap.size := World.block_lt_of_cell? w _ (hp 0)
 obtain ⟨a2y, c2y, f2y, a4y, c4y, f4y, a5y, c5y, f5y, a6y, c6y, f6y, rfl, -, m0y, m1y, m2y, m3y, m4y, m5y, m6y, m7y⟩ := Atm.open hy
 have hp' := zg hp hpz (zd w (.cells #[.int .i64 y.kind, .string y.a.name, .slice a2y y.a.kids.length c2y, .string y.b.name, .slice a4y y.b.kids.length c4y, .slice a5y y.nums.length c5y, .slice a6y y.times.length c6y, .int .i64 y.bound, .bool y.strict] 31))
 have C0 := hp' 0
 have C1 := hp' 1
 have C2 := hp' 2
 have C3 := hp' 3
 have C4 := hp' 4
 have C5 := hp' 5
 have C6 := hp' 6
 have C7 := hp' 7
 have C8 := hp' 8
 simp only [zfG, zfE, zfF] at C0 C1 C2 C3 C4 C5 C6 C7 C8
 clear hp hp'
 go_enter Tryz.func115, Tryz.ntmps115
 go_wp2_with fail
 refine (zcC x y _ _ _ _ _ (by exact hx.below (zd _ _)) (by exact hy.below (zd _ _))).mono ?_
 rintro e w1 ⟨rfl, hb1⟩
 go_wp2_with fail
 go_ret
 exact ⟨rfl, (zd _ _).trans (hb1.mono (by simp))⟩
theorem zcj (x : Atm) (l : List Atm) (v : Value) (g : List Nat) (pb : Nat) (a2 : Option Addr) (c2 : Nat) (a4 : Option Addr) (c4 : Nat) (a5 : Option Addr) (c5 : Nat) (a6 : Option Addr) (c6 : Nat) (f : List Nat) (w : World) (hp : ∀ j, w.cell? ⟨pb, j, none⟩ = (#[.int .i64 x.kind, .string x.a.name, .slice a2 x.a.kids.length c2, .string x.b.name, .slice a4 x.b.kids.length c4, .slice a5 x.nums.length c5, .slice a6 x.times.length c6, .int .i64 x.bound, .bool x.strict] : Array Value)[j]?) (hx : RdVs w x.cd [.int .i64 x.kind, .string x.a.name, .slice a2 x.a.kids.length c2, .string x.b.name, .slice a4 x.b.kids.length c4, .slice a5 x.nums.length c5, .slice a6 x.times.length c6, .int .i64 x.bound, .bool x.strict] f) (hl : Rd w (.sl (l.map Atm.cd)) v g) :
  Calls Tryz.prog 114 #[v, .func (.func 115) #[] #[.pointer (some ⟨pb, 0, none⟩)]] w fun e w' => (∃ n, e = .returned (.int .i64 n) ∧ FirstOf (fun y => eqV y.cd x.cd) l n) ∧ Below w.heap.size w w' := by
 obtain ⟨a, cap, rfl, hc1, hc2⟩ := zh hl
 have hpz : pb < w.heap.size := World.block_lt_of_cell? w _ (hp 0)
 go_enter Tryz.func114, Tryz.ntmps114
 go_wp2_with fail
 go_loopw [5, 8] (fun _ i wr => ∃ k : Nat, k ≤ l.length ∧ i = .int .i64 k ∧ Hid ((l.take k).all (fun t => !eqV t.cd x.cd) = true) ∧ Below w.heap.size w wr) (fun _ i _ => l.length - (intOf i).toNat)
 case atStart => exact ⟨0, Nat.zero_le _, rfl, Lib.hid (by simp), Below.refl _ _⟩
 case round =>
  obtain ⟨k, hkl, rfl, hall, hb⟩ := hrel
  have hz := hb.size
  by_cases hlt : k < l.length
  ·obtain ⟨b, off, rfl, hbs, _⟩ := zr hl (by omega)
   obtain ⟨a2y, c2y, f2y, a4y, c4y, f4y, a5y, c5y, f5y, a6y, c6y, f6y, d0y, d1y, d2y, d3y, d4y, d5y, d6y, d7y, d8y, n0y, n1y, n2y, n3y, n4y, n5y, n6y, n7y, hsuby⟩ := Atm.at (hl.below hb) hlt
   have hbz : b < wr.heap.size := by omega
   go_wp2_with fail
   refine (zdx x l[k] _ _ pb _ _ _ _ _ _ _ _ _ _ (zg hp hpz hb) (hx.below hb) (by exact Atm.close n0y n1y n2y n3y n4y n5y n6y n7y)).mono ?_
   rintro e w2 ⟨rfl, hb2⟩
   rw [eqV_comm]
   cases he : eqV l[k].cd x.cd
   ·have HE := Lib.hid (FirstOf.succ hlt hall.out he)
    clear he
    go_wp2_with fail
    go_roundw
    case rel => exact ⟨k + 1, by omega, by go_num, HE, hb.trans (hb2.mono hz)⟩
    case measure => simp [intOf]; omega
   ·have HE : Hid (FirstOf (fun y => eqV y.cd x.cd) l (k : Int)) := Lib.hid (.inr ⟨k, hlt, rfl, he, hall.out⟩)
    clear he
    go_wp2_with fail
    go_ret
    exact ⟨⟨k, rfl, HE.out⟩, hb.trans (hb2.mono hz)⟩
  ·have HE : Hid (FirstOf (fun y => eqV y.cd x.cd) l (-1)) := Lib.hid (.inl ⟨rfl, by have := hall.out; rwa [List.take_of_length_le (by omega)] at this⟩)
   go_wp2_with fail
   go_ret
   exact ⟨⟨-1, rfl, HE.out⟩, hb⟩
theorem zdy (x : Atm) (l : List Atm) (v : Value) (vs : List Value) (g f : List Nat) (w : World) (hl : Rd w (.sl (l.map Atm.cd)) v g) (hx : RdVs w x.cd vs f) :
  Calls Tryz.prog 80 #[v, .agg vs.toArray] w fun e w' => (∃ n, e = .returned (.int .i64 n) ∧ FirstOf (fun y => eqV y.cd x.cd) l n) ∧ Below w.heap.size w w' := by
 obtain ⟨a, cap, rfl, hc1, hc2⟩ := zh hl
 obtain ⟨a2, c2, f2, a4, c4, f4, a5, c5, f5, a6, c6, f6, rfl, -, m0, m1, m2, m3, m4, m5, m6, m7⟩ := Atm.open hx
 have hba := zd w (.cells #[.int .i64 x.kind, .string x.a.name, .slice a2 x.a.kids.length c2, .string x.b.name, .slice a4 x.b.kids.length c4, .slice a5 x.nums.length c5, .slice a6 x.times.length c6, .int .i64 x.bound, .bool x.strict] 31)
 have hp := zx w #[.int .i64 x.kind, .string x.a.name, .slice a2 x.a.kids.length c2, .string x.b.name, .slice a4 x.b.kids.length c4, .slice a5 x.nums.length c5, .slice a6 x.times.length c6, .int .i64 x.bound, .bool x.strict] 31
 go_enter Tryz.func80, Tryz.ntmps80
 go_wp2_with fail
 refine (zcj x l _ _ _ _ _ _ _ _ _ _ _ _ _ hp (by exact hx.below hba) (by exact hl.below hba)).mono ?_
 rintro e w1 ⟨⟨n, rfl, hn⟩, hb1⟩
 have HN := Lib.hid hn
 clear hn
 go_wp2_with fail
 go_ret
 exact ⟨⟨n, rfl, HN.out⟩, hba.trans (hb1.mono hba.size)⟩
theorem zcF (n : Nat) : ∀ (f : Fm) (l : List Atm) (vs : List Value) (ff : List Nat) (lv : Value) (fp : List Nat) (base : Nat) (w : World), ndV f.cd ≤ n → wtV f.cd ≤ 1048576 → l.length + wtV f.cd ≤ 1000000000 → base ≤ w.heap.size →
   Own w base 31 9 lv (l.map Atm.cd) fp → Fresh base w fp → RdVs w f.cd vs ff → (∀ y ∈ ff, lv.ownBlock ≠ some y) →
  Calls Tryz.prog 39 #[lv, .agg vs.toArray] w fun e w' => ∃ lv' fp', e = .returned lv' ∧ Own w' base 31 9 lv' ((Fm.add l f).map Atm.cd) fp' ∧ Fresh base w' fp' ∧ Moved w lv w' lv' := by
 induction n with
 | zero =>
  intro f l vs ff lv fp base w hn; have h : 0 < ndV f.cd := by rw [Fm.cd_eq]; simp [ndV, ndC]; try omega
  omega
 | succ n ih =>
 intro f l vs ff lv fp base w hn hbig hsum hbase hown0 hfr0 hv hna0
 have HN : Hid (∀ k ∈ f.kids, ndV k.cd ≤ n) := fun k hk => by have := Fm.kid_nd hk; omega
 have IH := Lib.hid ih
 clear ih
 obtain ⟨a3, c3, f3, a5, c5, f5, a6, c6, f6, a7, c7, f7, a11, c11, f11, rfl, hff, m0, m1, m2, m3, m4, m5, m6, m7, m8, m9⟩ := Fm.open hv
 have HFF := Lib.hid hff
 clear hv hff
 have hat := Atm.close (x := f.lit.atom) m1 m2 m3 m4 m5 m6 m7 m8
 have hw := Fm.wt_eq f
 have hsm := Lt.small_of (x := f.lit) (by omega)
 have hbt := Lt.times_ok (x := f.lit) (by omega)
 have hba := zd w (.cells #[.int .i64 f.kind, .int .i64 f.lit.atom.kind, .string f.lit.atom.a.name, .slice a3 f.lit.atom.a.kids.length c3, .string f.lit.atom.b.name, .slice a5 f.lit.atom.b.kids.length c5, .slice a6 f.lit.atom.nums.length c6, .slice a7 f.lit.atom.times.length c7, .int .i64 f.lit.atom.bound, .bool f.lit.atom.strict, .bool f.lit.no, .slice a11 f.kids.length c11] 36)
 have hp := zx w #[.int .i64 f.kind, .int .i64 f.lit.atom.kind, .string f.lit.atom.a.name, .slice a3 f.lit.atom.a.kids.length c3, .string f.lit.atom.b.name, .slice a5 f.lit.atom.b.kids.length c5, .slice a6 f.lit.atom.nums.length c6, .slice a7 f.lit.atom.times.length c7, .int .i64 f.lit.atom.bound, .bool f.lit.atom.strict, .bool f.lit.no, .slice a11 f.kids.length c11] 36
 have hown := hown0.below hba
 have hfr := hfr0.below hba
 clear hown0 hfr0
 have hk := m9.below hba
 have hna : ∀ y ∈ f11, lv.ownBlock ≠ some y := fun y hy => hna0 y (by rw [HFF.out]; simp [hy])
 have hE := Fm.add_eq l f
 obtain ⟨la, lc, hlv, hl1, hl2⟩ := hown.form
 rw [zfO] at hlv hl1
 subst hlv
 obtain ⟨fpr, hrd⟩ := hown.rd'
 by_cases k1 : f.kind = 1
 ·have tk : (f.kind == 1) = true := by simp [k1]
  have HE2 := Lib.hid (show hasA l f.lit.atom = false → Fm.add l f = l ++ [f.lit.atom] from fun h => by rw [hE, if_pos ⟨k1, h⟩])
  have HE1 := Lib.hid (show hasA l f.lit.atom ≠ false → Fm.add l f = Fm.adds l f.kids from fun h => by rw [hE, if_neg (fun h' => h h'.2)])
  clear hE k1
  go_enter Tryz.func39, Tryz.ntmps39
  go_wp2_with fail
  refine (zdy f.lit.atom l _ _ _ _ _ hrd (by exact hat.below hba)).mono ?_
  rintro e w1 ⟨⟨q, rfl, hq⟩, hb1⟩
  have hbd := hq.bd
  have HNEG := Lib.hid hq.neg
  clear hq hrd
  have hB := hba.trans (hb1.mono hba.size)
  replace hown := hown.below hb1
  replace hfr := hfr.below hb1
  replace hk := hk.below hb1
  replace hp := zg hp (by simp) hb1
  have hz1 := hB.size
  clear hb1
  by_cases hq0 : q < 0
  ·have HE := Lib.hid (HE2.out (HNEG.out.1 hq0))
   go_wp2_with fail
   refine (zcE f.lit.atom _ _ _ hsm hbt (by exact hat.below hB)).mono ?_
   rintro e w3 ⟨us, fp3, rfl, hr3, hf3, hb3⟩
   obtain ⟨a2y, c2y, f2y, a4y, c4y, f4y, a5y, c5y, f5y, a6y, c6y, f6y, rfl, -, m0y, m1y, m2y, m3y, m4y, m5y, m6y, m7y⟩ := Atm.open hr3
   have hown3 := hown.below (hb3.alloc hb3.size (.cells #[.int .i64 f.lit.atom.kind, .string f.lit.atom.a.name, .slice a2y f.lit.atom.a.kids.length c2y, .string f.lit.atom.b.name, .slice a4y f.lit.atom.b.kids.length c4y, .slice a5y f.lit.atom.nums.length c5y, .slice a6y f.lit.atom.times.length c6y, .int .i64 f.lit.atom.bound, .bool f.lit.atom.strict] 31))
   have hr3' := hr3.below (zd w3 (.cells #[.int .i64 f.lit.atom.kind, .string f.lit.atom.a.name, .slice a2y f.lit.atom.a.kids.length c2y, .string f.lit.atom.b.name, .slice a4y f.lit.atom.b.kids.length c4y, .slice a5y f.lit.atom.nums.length c5y, .slice a6y f.lit.atom.times.length c6y, .int .i64 f.lit.atom.bound, .bool f.lit.atom.strict] 31))
   have hz3 := hb3.size
   go_wp2_with (at_builtin; refine zE zaH rfl _ _ rfl base _ _ _ rfl hown3 ⟨w3.heap.size, 0, none⟩ 1 1 [f.lit.atom.cd] [.int .i64 f.lit.atom.kind, .string f.lit.atom.a.name, .slice a2y f.lit.atom.a.kids.length c2y, .string f.lit.atom.b.name, .slice a4y f.lit.atom.b.kids.length c4y, .slice a5y f.lit.atom.nums.length c5y, .slice a6y f.lit.atom.times.length c6y, .int .i64 f.lit.atom.bound, .bool f.lit.atom.strict] fp3 rfl rfl ?rd ?k ?cells ?na ?bytes ?len ?base ?next)
   case rd => simpa using hr3'
   case k => simp [Atm.cd_len]
   case cells => exact zv _ _ _
   case na => exact hown.away (Nat.le_refl _) hf3
   case bytes => (try rw [zfO]); (try simp); omega
   case len => (try rw [zfO]); (try simp); omega
   case base => simp; omega
   case next =>
    intro v' w4 hown4 hg hv' hs4
    go_wp2_with fail
    go_ret
    exact ⟨v', _, rfl, by rw [HE.out]; simpa using hown4, ((Fresh.app (hfr.below hb3) hfr.lt (by omega) hf3).below (zd _ _)).same hs4, Moved.after hB (Moved.after (hb3.alloc hb3.size _) ⟨hg, by simpa using hv'⟩)⟩
  ·have HE := Lib.hid (HE1.out (fun h => hq0 (HNEG.out.2 h)))
   go_wp2_with fail
   go_loopw [0, 28] (fun ov i wr => ∃ (k : Nat) (fp : List Nat), k ≤ f.kids.length ∧ i = .int .i64 k ∧ Own wr base 31 9 ov ((Fm.adds l (f.kids.take k)).map Atm.cd) fp ∧ Fresh base wr fp ∧ Moved w1 (.slice la l.length lc) wr ov) (fun _ i _ => f.kids.length - (intOf i).toNat)
   case atStart => exact ⟨0, fp, Nat.zero_le _, rfl, hown, hfr, Moved.refl _ _⟩
   case round =>
    clear hown hfr fp
    obtain ⟨k, fp, hkl, rfl, hown, hfr, hm⟩ := hrel
    have hz := Nat.le_trans hB.size hm.size
    have hln := Fm.adds_len (f.kids.take k) l
    have hle := zC Fm.cd f.kids k
    rw [← List.map_take] at hle
    have hlk : (f.kids.take k).length ≤ k := by simp; omega
    by_cases hlt : k < f.kids.length
    ·have hkr := hk.same _ (hm.same (hk.lt _) hna)
     have hka := hm.away (hk.lt _) hna
     obtain ⟨b, off, rfl, hbs, _⟩ := zr hk (by omega)
     obtain ⟨b3, e3, g3, b5, e5, g5, b6, e6, g6, b7, e7, g7, b11, e11, g11, d0, d1, d2, d3, d4, d5, d6, d7, d8, d9, d10, d11, n0, n1, n2, n3, n4, n5, n6, n7, n8, n9, hsub⟩ := Fm.at hkr hlt
     have hbz : b < wr.heap.size := zfH hbs hm.size
     have hle2 := zC Fm.cd f.kids (k + 1)
     rw [zG Fm.cd f.kids k hlt, ← List.map_take] at hle2
     go_wp2_with fail
     refine (IH.out f.kids[k] (Fm.adds l (f.kids.take k)) _ _ _ fp base _ (HN.out _ (zfK hlt)) (by omega) (by omega) (by simp; omega) (by exact hown.below (zd _ _)) (by exact hfr.below (zd _ _)) (by exact (Fm.close n0 n1 n2 n3 n4 n5 n6 n7 n8 n9).below (zd _ _)) (fun y hy => hka y (hsub y hy))).mono ?_
     rintro e w2 ⟨lv2, fp2, rfl, hown2, hfr2, hm2⟩
     go_wp2_with fail
     go_roundw
     case rel => exact ⟨k + 1, fp2, by omega, by go_num, by rw [Fm.adds_succ _ _ _ hlt]; exact hown2, hfr2, hm.trans (Moved.after (zd _ _) hm2)⟩
     case measure => simp [intOf]; omega
    ·have he : f.kids.take k = f.kids := List.take_of_length_le (by omega)
     rw [he] at hown
     go_wp2_with fail
     go_ret
     exact ⟨_, fp, rfl, by rw [HE.out]; exact hown, hfr, Moved.after hB hm⟩
 ·have tk : (f.kind == 1) = false := by simp [k1]
  have HE := Lib.hid (show Fm.add l f = Fm.adds l f.kids by rw [hE, if_neg (fun h => k1 h.1)])
  clear hE k1
  go_enter Tryz.func39, Tryz.ntmps39
  go_wp2_with fail
  go_loopw [0, 28] (fun ov i wr => ∃ (k : Nat) (fp : List Nat), k ≤ f.kids.length ∧ i = .int .i64 k ∧ Own wr base 31 9 ov ((Fm.adds l (f.kids.take k)).map Atm.cd) fp ∧ Fresh base wr fp ∧ Moved _ (.slice la l.length lc) wr ov) (fun _ i _ => f.kids.length - (intOf i).toNat)
  case atStart => exact ⟨0, fp, Nat.zero_le _, rfl, hown, hfr, Moved.refl _ _⟩
  case round =>
   clear hown hfr fp
   obtain ⟨k, fp, hkl, rfl, hown, hfr, hm⟩ := hrel
   have hz := Nat.le_trans hba.size hm.size
   have hln := Fm.adds_len (f.kids.take k) l
   have hle := zC Fm.cd f.kids k
   rw [← List.map_take] at hle
   have hlk : (f.kids.take k).length ≤ k := by simp; omega
   by_cases hlt : k < f.kids.length
   ·have hkr := hk.same _ (hm.same (hk.lt _) hna)
    have hka := hm.away (hk.lt _) hna
    obtain ⟨b, off, rfl, hbs, _⟩ := zr hk (by omega)
    obtain ⟨b3, e3, g3, b5, e5, g5, b6, e6, g6, b7, e7, g7, b11, e11, g11, d0, d1, d2, d3, d4, d5, d6, d7, d8, d9, d10, d11, n0, n1, n2, n3, n4, n5, n6, n7, n8, n9, hsub⟩ := Fm.at hkr hlt
    have hbz : b < wr.heap.size := zfH hbs hm.size
    have hle2 := zC Fm.cd f.kids (k + 1)
    rw [zG Fm.cd f.kids k hlt, ← List.map_take] at hle2
    go_wp2_with fail
    refine (IH.out f.kids[k] (Fm.adds l (f.kids.take k)) _ _ _ fp base _ (HN.out _ (zfK hlt)) (by omega) (by omega) (by simp; omega) (by exact hown.below (zd _ _)) (by exact hfr.below (zd _ _)) (by exact (Fm.close n0 n1 n2 n3 n4 n5 n6 n7 n8 n9).below (zd _ _)) (fun y hy => hka y (hsub y hy))).mono ?_
    rintro e w2 ⟨lv2, fp2, rfl, hown2, hfr2, hm2⟩
    go_wp2_with fail
    go_roundw
    case rel => exact ⟨k + 1, fp2, by omega, by go_num, by rw [Fm.adds_succ _ _ _ hlt]; exact hown2, hfr2, hm.trans (Moved.after (zd _ _) hm2)⟩
    case measure => simp [intOf]; omega
   ·have he : f.kids.take k = f.kids := List.take_of_length_le (by omega)
    rw [he] at hown
    go_wp2_with fail
    go_ret
    exact ⟨_, fp, rfl, by rw [HE.out]; exact hown, hfr, Moved.after hba hm⟩
def zaF (fs : List Fm) : Bool := decide (fs.length ≤ 5) && (fs.all Fm.okF && decide ((Fm.adds [] fs).length ≤ 6))
def zac (fs : List Fm) : List Atm := if zaF fs = true then Fm.adds [] fs else []
theorem zcb {fs : List Fm} (h : zaF fs = true) : zac fs = Fm.adds [] fs := if_pos h
theorem zby {fs : List Fm} (h : zaF fs = false) : zac fs = [] := by unfold zac; rw [h]; rfl
theorem zfg (f : Fm) (vs : List Value) (ff : List Nat) (w : World) (hbig : wtV f.cd ≤ 1048576) (hv : RdVs w f.cd vs ff) :
  Calls Tryz.prog 38 #[.agg vs.toArray] w fun e w' => e = .returned (.bool f.okF) ∧ Below w.heap.size w w' := by
 have hv0 := hv
 obtain ⟨a3, c3, f3, a5, c5, f5, a6, c6, f6, a7, c7, f7, a11, c11, f11, rfl, -, m0, m1, m2, m3, m4, m5, m6, m7, m8, m9⟩ := Fm.open hv
 clear hv
 have hln := Fm.add_len f []
 go_enter Tryz.func38, Tryz.ntmps38
 go_wp2_with fail
 refine (zff f 1 _ _ _ hbig (by omega) (by omega) (by exact hv0.below (zd _ _))).mono ?_
 rintro e w1 ⟨rfl, hb1⟩
 obtain ⟨hx, hz1, hB⟩ := box1 (w := w) (wr := w1) (cs := #[.int .i64 f.kind, .int .i64 f.lit.atom.kind, .string f.lit.atom.a.name, .slice a3 f.lit.atom.a.kids.length c3, .string f.lit.atom.b.name, .slice a5 f.lit.atom.b.kids.length c5, .slice a6 f.lit.atom.nums.length c6, .slice a7 f.lit.atom.times.length c7, .int .i64 f.lit.atom.bound, .bool f.lit.atom.strict, .bool f.lit.no, .slice a11 f.kids.length c11]) (T := 36) (zq hb1 (by simp))
 have C0 := hx 0
 have C1 := hx 1
 have C2 := hx 2
 have C3 := hx 3
 have C4 := hx 4
 have C5 := hx 5
 have C6 := hx 6
 have C7 := hx 7
 have C8 := hx 8
 have C9 := hx 9
 have C10 := hx 10
 have C11 := hx 11
 simp only [zfG, zfE, zfF] at C0 C1 C2 C3 C4 C5 C6 C7 C8 C9 C10 C11
 clear hb1 hx
 have h11 : (1 : Int).toNat = 1 := rfl
 rw [h11]
 clear h11
 by_cases h1 : Fm.sz 1 f ≤ 10
 ·go_wp2_with fail
  refine (zcF _ f [] _ _ (.slice none 0 0) [] w1.heap.size _ (Nat.le_refl _) hbig (by simp; omega) (Nat.le_refl _) (Own.nil _ _ _ _) (Fresh.nil _ _) (by exact hv0.below hB) (by simp [Value.ownBlock])).mono ?_
  rintro e w2 ⟨lv, fp, rfl, hown, _, hm⟩
  obtain ⟨la, lc, rfl, _, _⟩ := hown.form
  have hB2 := hB.trans (hm.toBelow (B := w.heap.size) (by omega) (by simp [Value.ownBlock]))
  rw [zfO]
  clear hm hown
  have HE := Lib.hid (show f.okF = decide (((Fm.add [] f).length : Int) ≤ 6) by unfold Fm.okF; rw [Bool.eq_iff_iff]; simp [h1]; try omega)
  go_wp2_with fail
  go_ret
  exact ⟨retB HE.out.symm, hB2⟩
 ·have HE := Lib.hid (show f.okF = false by unfold Fm.okF; simp [h1])
  go_wp2_with fail
  go_ret
  exact ⟨retB HE.out.symm, hB⟩
theorem zc3 (fs : List Fm) (v : Value) (ff : List Nat) (w : World) (hbig : fs.length + wtR (fs.map Fm.cd) ≤ 1048576) (hv : Rd w (.sl (fs.map Fm.cd)) v ff) :
  Calls Tryz.prog 54 #[v] w fun e w' => ∃ rv fp, e = .returned (.tuple #[rv, .bool (zaF fs)]) ∧ Rd w' (.sl ((zac fs).map Atm.cd)) rv fp ∧ Fresh w.heap.size w' fp ∧ Below w.heap.size w w' := by
 obtain ⟨a, cap, rfl, hc1, hc2⟩ := zh hv
 by_cases h5 : fs.length ≤ 5
 rotate_left
 ·have HO : Hid (zaF fs = false) := Lib.hid (by unfold zaF; simp [h5])
  have HE := Lib.hid (zby HO.out)
  go_enter Tryz.func54, Tryz.ntmps54
  go_wp2_with fail
  go_ret2
  exact ⟨_, [], by rw [HO.out]; rfl, by rw [HE.out]; exact zbg _ _, Fresh.nil _ _, Below.refl _ _⟩
 go_enter Tryz.func54, Tryz.ntmps54
 go_wp2_with fail
 go_loopw [4, 12] (fun ov i wr => ∃ (k : Nat) (fp : List Nat), k ≤ fs.length ∧ i = .int .i64 k ∧ Hid ((fs.take k).all Fm.okF = true) ∧ Own wr w.heap.size 31 9 ov ((Fm.adds [] (fs.take k)).map Atm.cd) fp ∧ Fresh w.heap.size wr fp ∧ Below w.heap.size w wr) (fun _ i _ => fs.length - (intOf i).toNat)
 case atStart => exact ⟨0, [], Nat.zero_le _, rfl, Lib.hid (by simp), Own.nil _ _ _ _, Fresh.nil _ _, Below.refl _ _⟩
 case round =>
  obtain ⟨k, fp, hkl, rfl, hall, hown, hfr, hb⟩ := hrel
  have hz := hb.size
  have hln := Fm.adds_len (fs.take k) []
  have hle := zC Fm.cd fs k
  rw [← List.map_take] at hle
  have hlk : (fs.take k).length ≤ k := by simp; omega
  simp only [List.length_nil, Nat.zero_add] at hln
  by_cases hlt : k < fs.length
  ·obtain ⟨b, off, rfl, hbs, _⟩ := zr hv (by omega)
   obtain ⟨b3, e3, g3, b5, e5, g5, b6, e6, g6, b7, e7, g7, b11, e11, g11, d0, d1, d2, d3, d4, d5, d6, d7, d8, d9, d10, d11, n0, n1, n2, n3, n4, n5, n6, n7, n8, n9, hsub⟩ := Fm.at (hv.below hb) hlt
   have hbz : b < wr.heap.size := by omega
   have hle2 := zC Fm.cd fs (k + 1)
   rw [zG Fm.cd fs k hlt, ← List.map_take] at hle2
   have hna : ∀ y ∈ g3 ++ (g5 ++ (g6 ++ (g7 ++ g11))), u4.ownBlock ≠ some y := fun y hy => hown.row_ne (hv.lt _ y (hsub y hy))
   go_wp2_with fail
   refine (zfg fs[k] _ _ _ (by omega) (by exact (Fm.close n0 n1 n2 n3 n4 n5 n6 n7 n8 n9).below (zd _ _))).mono ?_
   rintro e w1 ⟨rfl, hb1⟩
   obtain ⟨hx, hz1, hB⟩ := box1 (w := wr) (wr := w1) (cs := #[.int .i64 fs[k].kind, .int .i64 fs[k].lit.atom.kind, .string fs[k].lit.atom.a.name, .slice b3 fs[k].lit.atom.a.kids.length e3, .string fs[k].lit.atom.b.name, .slice b5 fs[k].lit.atom.b.kids.length e5, .slice b6 fs[k].lit.atom.nums.length e6, .slice b7 fs[k].lit.atom.times.length e7, .int .i64 fs[k].lit.atom.bound, .bool fs[k].lit.atom.strict, .bool fs[k].lit.no, .slice b11 fs[k].kids.length e11]) (T := 36) (zq hb1 (by simp))
   have C0 := hx 0
   have C1 := hx 1
   have C2 := hx 2
   have C3 := hx 3
   have C4 := hx 4
   have C5 := hx 5
   have C6 := hx 6
   have C7 := hx 7
   have C8 := hx 8
   have C9 := hx 9
   have C10 := hx 10
   have C11 := hx 11
   simp only [zfG, zfE, zfF] at C0 C1 C2 C3 C4 C5 C6 C7 C8 C9 C10 C11
   clear hb1 hx
   cases hok : fs[k].okF
   ·have HO : Hid (zaF fs = false) := Lib.hid (by
     have : fs.all Fm.okF = false := by rw [List.all_eq_false]; exact ⟨fs[k], zfK hlt, by simp [hok]⟩
     unfold zaF; simp [this])
    have HE := Lib.hid (zby HO.out)
    clear hok
    go_wp2_with fail
    go_ret2
    exact ⟨_, [], by rw [HO.out]; rfl, by rw [HE.out]; exact zbg _ _, Fresh.nil _ _, hb.trans (hB.mono hz)⟩
   ·have HA : Hid ((fs.take (k + 1)).all Fm.okF = true) := Lib.hid (by rw [zfI hlt, List.all_append, hall.out]; simp [hok])
    clear hok
    go_wp2_with fail
    refine (zcF _ fs[k] (Fm.adds [] (fs.take k)) _ _ _ fp w.heap.size _ (Nat.le_refl _) (by omega) (by omega) (by omega) (by exact hown.below hB) (by exact hfr.below hB) (by exact (Fm.close n0 n1 n2 n3 n4 n5 n6 n7 n8 n9).below hB) hna).mono ?_
    rintro e w2 ⟨lv2, fp2, rfl, hown2, hfr2, hm2⟩
    have hB2 := (hb.trans (hB.mono hz)).trans (hm2.toBelow (B := w.heap.size) (by omega) (fun b h => (hown.block h).1))
    go_wp2_with fail
    go_roundw
    case rel => exact ⟨k + 1, fp2, by omega, by go_num, HA, by rw [Fm.adds_succ _ _ _ hlt]; exact hown2, hfr2, hB2⟩
    case measure => simp [intOf]; omega
  ·have he : fs.take k = fs := List.take_of_length_le (by omega)
   rw [he] at hown hall hln
   obtain ⟨la, lc, hlv, hl1, hl2⟩ := hown.form
   obtain ⟨fp', h1, h2, _⟩ := hown.fresh hfr
   rw [zfO] at hlv hl1
   subst hlv
   clear hown hfr he
   by_cases h6 : (Fm.adds [] fs).length ≤ 6
   ·have HO : Hid (zaF fs = true) := Lib.hid (by unfold zaF; simp only [hall.out]; simp [h5, h6])
    have HE := Lib.hid (zcb HO.out)
    go_wp2_with fail
    go_ret2
    exact ⟨_, fp', by rw [HO.out]; rfl, by rw [HE.out]; exact h1, h2, hb⟩
   ·have HO : Hid (zaF fs = false) := Lib.hid (by unfold zaF; simp [h6])
    have HE := Lib.hid (zby HO.out)
    go_wp2_with fail
    go_ret2
    exact ⟨_, [], by rw [HO.out]; rfl, by rw [HE.out]; exact zbg _ _, Fresh.nil _ _, hb⟩
end Go.Proofs.YtbfinjiledfpcaaGreat
end
