/- Parts of the proof: FormT FormU. -/
import Derived.Test.YtbfinjiledfpcaaGreatPb32
import Derived.Test.YtbfinjiledfpcaaGreatPb22
section
namespace Go.Proofs.YtbfinjiledfpcaaGreat
open Go Go.RowKit
set_option linter.unusedVariables false
set_option linter.unusedSimpArgs false
set_option maxRecDepth 100000
set_option maxHeartbeats 16000000
theorem zer (x : Atm) (l : List Atm) (v : Value) (vs : List Value) (g f : List Nat) (w : World) (hl : Rd w (.sl (l.map Atm.cd)) v g) (hx : RdVs w x.cd vs f) :
  Calls Tryz.prog 121 #[v, .agg vs.toArray] w fun e w' => (∃ n, e = .returned (.int .i64 n) ∧ FirstOf (fun y => eqV y.cd x.cd) l n) ∧ Below w.heap.size w w' := by
 obtain ⟨a, cap, rfl, hc1, hc2⟩ := zh hl
 obtain ⟨a2, c2, f2, a4, c4, f4, a5, c5, f5, a6, c6, f6, rfl, -, m0, m1, m2, m3, m4, m5, m6, m7⟩ := Atm.open hx
 go_enter Tryz.func121, Tryz.ntmps121
 go_wp2_with fail
 go_loopw [5] (fun i wr => ∃ k : Nat, k ≤ l.length ∧ i = .int .i64 k ∧ Hid ((l.take k).all (fun t => !eqV t.cd x.cd) = true) ∧ Below (w.heap.size + 1) (w.alloc (.cells #[.int .i64 x.kind, .string x.a.name, .slice a2 x.a.kids.length c2, .string x.b.name, .slice a4 x.b.kids.length c4, .slice a5 x.nums.length c5, .slice a6 x.times.length c6, .int .i64 x.bound, .bool x.strict] 31)) wr) (fun i _ => l.length - (intOf i).toNat)
 case atStart => exact ⟨0, Nat.zero_le _, rfl, Lib.hid (by simp), Below.refl _ _⟩
 case round =>
  obtain ⟨k, hkl, rfl, hall, hbx⟩ := hrel
  obtain ⟨hx', hz1, hb⟩ := box1 (w := w) (wr := wr) (cs := #[.int .i64 x.kind, .string x.a.name, .slice a2 x.a.kids.length c2, .string x.b.name, .slice a4 x.b.kids.length c4, .slice a5 x.nums.length c5, .slice a6 x.times.length c6, .int .i64 x.bound, .bool x.strict]) (T := 31) hbx
  have C0 := hx' 0
  have C1 := hx' 1
  have C2 := hx' 2
  have C3 := hx' 3
  have C4 := hx' 4
  have C5 := hx' 5
  have C6 := hx' 6
  have C7 := hx' 7
  have C8 := hx' 8
  simp only [zfG, zfE, zfF] at C0 C1 C2 C3 C4 C5 C6 C7 C8
  have hz := hb.size
  by_cases hlt : k < l.length
  ·obtain ⟨b, off, rfl, hbs, _⟩ := zr hl (by omega)
   have hbx0 := Lib.hid hbx
   have HX : Hid (RdVs wr x.cd [.int .i64 x.kind, .string x.a.name, .slice a2 x.a.kids.length c2, .string x.b.name, .slice a4 x.b.kids.length c4, .slice a5 x.nums.length c5, .slice a6 x.times.length c6, .int .i64 x.bound, .bool x.strict] (f2 ++ (f4 ++ (f5 ++ f6)))) := Lib.hid ((Atm.close m0 m1 m2 m3 m4 m5 m6 m7) |>.below hb)
   obtain ⟨a2y, c2y, f2y, a4y, c4y, f4y, a5y, c5y, f5y, a6y, c6y, f6y, d0y, d1y, d2y, d3y, d4y, d5y, d6y, d7y, d8y, n0y, n1y, n2y, n3y, n4y, n5y, n6y, n7y, hsuby⟩ := Atm.at (hl.below hb) hlt
   have HY := Lib.hid (Atm.close n0y n1y n2y n3y n4y n5y n6y n7y)
   have hbz : b < wr.heap.size := by omega
   clear hx' hbx
   go_wp2_with fail
   have qC0 := cell_regrown C0
   have qC1 := cell_regrown C1
   have qC2 := cell_regrown C2
   have qC3 := cell_regrown C3
   have qC4 := cell_regrown C4
   have qC5 := cell_regrown C5
   have qC6 := cell_regrown C6
   have qC7 := cell_regrown C7
   have qC8 := cell_regrown C8
   have qd0y := cell_regrown d0y
   have qd1y := cell_regrown d1y
   have qd2y := cell_regrown d2y
   have qd3y := cell_regrown d3y
   have qd4y := cell_regrown d4y
   have qd5y := cell_regrown d5y
   have qd6y := cell_regrown d6y
   have qd7y := cell_regrown d7y
   have qd8y := cell_regrown d8y
   clear C0 C1 C2 C3 C4 C5 C6 C7 C8 d0y d1y d2y d3y d4y d5y d6y d7y d8y
   refine wp_region_quiet_below (by kernel_rfl) (by kernel_rfl) ?_
   repeat (quiet_step (first | (go_at_call 139; with_reducible refine Calls.regrown_of (zdc l[k] x _ _ _ _ _ (HY.out.below (below_regrown _ _ _)) (HX.out.below (below_regrown _ _ _))))))
   refine wpQuiet_nil ?_
   intro w2 hw2
   obtain ⟨⟨dq, osq⟩, hw2⟩ := hw2
   have hbq : Below (wr).heap.size (wr) w2 := hw2 ▸ below_regrown (wr) dq osq
   clear hw2 qC0 qC1 qC2 qC3 qC4 qC5 qC6 qC7 qC8 qd0y qd1y qd2y qd3y qd4y qd5y qd6y qd7y qd8y
   have hbx : Below (w.heap.size + 1) (w.alloc (.cells #[.int .i64 x.kind, .string x.a.name, .slice a2 x.a.kids.length c2, .string x.b.name, .slice a4 x.b.kids.length c4, .slice a5 x.nums.length c5, .slice a6 x.times.length c6, .int .i64 x.bound, .bool x.strict] 31)) w2 := hbx0.out.trans (hbq.mono (by omega))
   cases he : eqV l[k].cd x.cd
   ·have HE := Lib.hid (FirstOf.succ hlt hall.out he)
    clear he
    go_wp2_with fail
    go_roundw
    case rel => exact ⟨k + 1, by omega, by go_num, HE, hbx⟩
    case measure => simp [intOf]; omega
   ·have HE : Hid (FirstOf (fun y => eqV y.cd x.cd) l (k : Int)) := Lib.hid (.inr ⟨k, hlt, rfl, he, hall.out⟩)
    clear he
    go_wp2_with fail
    go_ret
    exact ⟨⟨k, rfl, HE.out⟩, hb.trans (hbq.mono hz)⟩
  ·have HE : Hid (FirstOf (fun y => eqV y.cd x.cd) l (-1)) := Lib.hid (.inl ⟨rfl, by have := hall.out; rwa [List.take_of_length_le (by omega)] at this⟩)
   go_wp2_with fail
   go_ret
   exact ⟨⟨-1, rfl, HE.out⟩, hb⟩
def addA (l : List Atm) (x : Atm) : List Atm := if hasA l x = true then l else l ++ [x]
theorem addA_yes {l : List Atm} {x : Atm} (h : hasA l x = true) : addA l x = l := if_pos h
theorem addA_no {l : List Atm} {x : Atm} (h : hasA l x = false) : addA l x = l ++ [x] := by unfold addA; rw [h]; rfl
def AtmOut (l' : List Atm) (base : Nat) (lv : Value) (fp f : List Nat) (w : World) (e : Ending) (w' : World) : Prop :=
 ∃ lv' fp', e = .returned lv' ∧ Own w' base 31 9 lv' (l'.map Atm.cd) fp' ∧ (∀ y ∈ fp', y ∈ fp ∨ y ∈ f) ∧ Moved w lv w' lv'
theorem zbN (x : Atm) (l : List Atm) (lv : Value) (vs : List Value) (fp f : List Nat) (base : Nat) (w : World) (hbase : base ≤ w.heap.size) (hlen : l.length ≤ 1000000000) (hown : Own w base 31 9 lv (l.map Atm.cd) fp) (hx : RdVs w x.cd vs f) (hna : ∀ y ∈ f, lv.ownBlock ≠ some y) :
  Calls Tryz.prog 84 #[lv, .agg vs.toArray] w (AtmOut (addA l x) base lv fp f w) := by
 obtain ⟨a2, c2, f2, a4, c4, f4, a5, c5, f5, a6, c6, f6, rfl, rfl, m0, m1, m2, m3, m4, m5, m6, m7⟩ := Atm.open hx
 have hat := Atm.close m0 m1 m2 m3 m4 m5 m6 m7
 have hff := hat
 have hba := zd w (.cells #[.int .i64 x.kind, .string x.a.name, .slice a2 x.a.kids.length c2, .string x.b.name, .slice a4 x.b.kids.length c4, .slice a5 x.nums.length c5, .slice a6 x.times.length c6, .int .i64 x.bound, .bool x.strict] 31)
 obtain ⟨fpr, hrd⟩ := hown.rd'
 obtain ⟨la, lc, hlv, hl1, hl2⟩ := hown.form
 rw [zfO] at hlv hl1
 subst hlv
 go_enter Tryz.func84, Tryz.ntmps84
 go_wp2_with fail
 refine (zer x l _ _ _ _ _ (hrd.below hba) (by exact hat.below hba)).mono ?_
 rintro e w1 ⟨⟨q, rfl, hq⟩, hb1⟩
 obtain ⟨hx', hz1, hB⟩ := box1 (w := w) (wr := w1) (cs := #[.int .i64 x.kind, .string x.a.name, .slice a2 x.a.kids.length c2, .string x.b.name, .slice a4 x.b.kids.length c4, .slice a5 x.nums.length c5, .slice a6 x.times.length c6, .int .i64 x.bound, .bool x.strict]) (T := 31) (zq hb1 (by simp))
 have C0 := hx' 0
 have C1 := hx' 1
 have C2 := hx' 2
 have C3 := hx' 3
 have C4 := hx' 4
 have C5 := hx' 5
 have C6 := hx' 6
 have C7 := hx' 7
 have C8 := hx' 8
 simp only [zfG, zfE, zfF] at C0 C1 C2 C3 C4 C5 C6 C7 C8
 clear hb1 hx'
 have hbd := hq.bd
 have HNEG := Lib.hid hq.neg
 clear hq hrd
 by_cases hq0 : q < 0
 ·have HE := Lib.hid (addA_no (HNEG.out.1 hq0))
  have hown3 := hown.below (hB.alloc hB.size (.cells #[.int .i64 x.kind, .string x.a.name, .slice a2 x.a.kids.length c2, .string x.b.name, .slice a4 x.b.kids.length c4, .slice a5 x.nums.length c5, .slice a6 x.times.length c6, .int .i64 x.bound, .bool x.strict] 31))
  have hr3' := (hat.below hB).below (zd w1 (.cells #[.int .i64 x.kind, .string x.a.name, .slice a2 x.a.kids.length c2, .string x.b.name, .slice a4 x.b.kids.length c4, .slice a5 x.nums.length c5, .slice a6 x.times.length c6, .int .i64 x.bound, .bool x.strict] 31))
  have hzB := hB.size
  go_wp2_with (at_builtin; refine zE zaH rfl _ _ rfl base _ _ _ rfl hown3 ⟨w1.heap.size, 0, none⟩ 1 1 [x.cd] [.int .i64 x.kind, .string x.a.name, .slice a2 x.a.kids.length c2, .string x.b.name, .slice a4 x.b.kids.length c4, .slice a5 x.nums.length c5, .slice a6 x.times.length c6, .int .i64 x.bound, .bool x.strict] (f2 ++ (f4 ++ (f5 ++ f6))) rfl rfl ?rd ?k ?cells ?na ?bytes ?len ?base ?next)
  case rd => simpa using hr3'
  case k => simp [Atm.cd_len]
  case cells => exact zv _ _ _
  case na => exact hna
  case bytes => (try rw [zfO]); (try simp); omega
  case len => (try rw [zfO]); (try simp); omega
  case base => simp; omega
  case next =>
   intro v' w4 hown4 hg hv' hs4
   go_wp2_with fail
   go_ret
   exact ⟨v', _, rfl, by rw [HE.out]; simpa using hown4, fun y hy => zfJ.1 hy, Moved.after (hB.alloc hB.size _) ⟨hg, by simpa using hv'⟩⟩
 ·have HE := Lib.hid (show addA l x = l by
   cases hh : hasA l x
   ·exact absurd (HNEG.out.2 hh) hq0
   ·exact addA_yes hh)
  have hown3 := hown.below hB
  go_wp2_with fail
  go_ret
  exact ⟨_, fp, rfl, by rw [HE.out]; exact hown3, fun y hy => .inl hy, Moved.after hB (Moved.refl _ _)⟩
theorem zdU (n : Nat) : ∀ (f : Fm) (l : List Atm) (vs : List Value) (ff : List Nat) (lv : Value) (fp : List Nat) (base : Nat) (w : World), ndV f.cd ≤ n → wtV f.cd ≤ 1048576 → l.length + wtV f.cd ≤ 1000000000 → base ≤ w.heap.size →
   Own w base 31 9 lv (l.map Atm.cd) fp → RdVs w f.cd vs ff → (∀ y ∈ ff, lv.ownBlock ≠ some y) →
  Calls Tryz.prog 41 #[lv, .agg vs.toArray] w fun e w' => ∃ lv' fp', e = .returned lv' ∧ Own w' base 31 9 lv' ((Fm.tell l f).map Atm.cd) fp' ∧ (∀ y ∈ fp', y ∈ fp ∨ y ∈ ff) ∧ Moved w lv w' lv' := by
 induction n with
 | zero =>
  intro f l vs ff lv fp base w hn; have h : 0 < ndV f.cd := by rw [Fm.cd_eq]; simp [ndV, ndC]; try omega
  omega
 | succ n ih =>
 intro f l vs ff lv fp base w hn hbig hsum hbase hown0 hv hna0
 have HN : Hid (∀ k ∈ f.kids, ndV k.cd ≤ n) := fun k hk => by have := Fm.kid_nd hk; omega
 have IH := Lib.hid ih
 clear ih
 obtain ⟨a3, c3, f3, a5, c5, f5, a6, c6, f6, a7, c7, f7, a11, c11, f11, rfl, hff, m0, m1, m2, m3, m4, m5, m6, m7, m8, m9⟩ := Fm.open hv
 have HFF := Lib.hid hff
 clear hv hff
 have hat := Atm.close (x := f.lit.atom) m1 m2 m3 m4 m5 m6 m7 m8
 have hw := Nat.le_of_eq (Fm.wt_eq f).symm
 have hba := zd w (.cells #[.int .i64 f.kind, .int .i64 f.lit.atom.kind, .string f.lit.atom.a.name, .slice a3 f.lit.atom.a.kids.length c3, .string f.lit.atom.b.name, .slice a5 f.lit.atom.b.kids.length c5, .slice a6 f.lit.atom.nums.length c6, .slice a7 f.lit.atom.times.length c7, .int .i64 f.lit.atom.bound, .bool f.lit.atom.strict, .bool f.lit.no, .slice a11 f.kids.length c11] 36)
 have hp := zx w #[.int .i64 f.kind, .int .i64 f.lit.atom.kind, .string f.lit.atom.a.name, .slice a3 f.lit.atom.a.kids.length c3, .string f.lit.atom.b.name, .slice a5 f.lit.atom.b.kids.length c5, .slice a6 f.lit.atom.nums.length c6, .slice a7 f.lit.atom.times.length c7, .int .i64 f.lit.atom.bound, .bool f.lit.atom.strict, .bool f.lit.no, .slice a11 f.kids.length c11] 36
 have hown := hown0.below hba
 have HOB : Hid (∀ b, lv.ownBlock = some b → b < w.heap.size) := Lib.hid fun b hb => (hown0.block hb).2
 clear hown0
 have hk := m9.below hba
 have hna : ∀ y ∈ f11, lv.ownBlock ≠ some y := fun y hy => hna0 y (by rw [HFF.out]; simp [hy])
 have hE := Fm.tell_eq l f
 obtain ⟨la, lc, hlv, hl1, hl2⟩ := hown.form
 rw [zfO] at hlv hl1
 subst hlv
 by_cases k1 : f.kind = 1
 ·have tk : (f.kind == 1) = true := by simp [k1]
  rw [if_pos k1] at hE
  have HE := Lib.hid hE
  clear hE k1
  go_enter Tryz.func41, Tryz.ntmps41
  go_wp2_with fail
  refine (zbN f.lit.atom l _ _ _ _ base _ (by simp; omega) (by omega) hown (by exact hat.below hba) (fun y hy => hna0 y (by rw [HFF.out]; simp only [zfJ] at hy ⊢; rcases hy with h | h | h | h <;> simp [h]))).mono ?_
  rintro e w1 ⟨lv1, fp1, rfl, hown1, hsub1, hm1⟩
  go_wp2_with fail
  go_ret
  refine ⟨_, _, rfl, by rw [HE.out]; exact hown1, fun y hy => ?_, Moved.after hba hm1⟩
  rcases hsub1 y hy with h | h
  ·exact .inl h
  ·right; rw [HFF.out]; simp only [zfJ] at h ⊢; rcases h with h | h | h | h <;> simp [h]
 ·have tk : (f.kind == 1) = false := by simp [k1]
  rw [if_neg k1] at hE
  have HE := Lib.hid hE
  clear hE k1
  go_enter Tryz.func41, Tryz.ntmps41
  go_wp2_with fail
  go_loopw [0, 5] (fun ov i wr => ∃ (k : Nat) (fq : List Nat), k ≤ f.kids.length ∧ i = .int .i64 k ∧ Own wr base 31 9 ov ((Fm.tells l (f.kids.take k)).map Atm.cd) fq ∧ Hid (∀ y ∈ fq, y ∈ fp ∨ y ∈ f11) ∧ Moved (w.alloc (.cells #[.int .i64 f.kind, .int .i64 f.lit.atom.kind, .string f.lit.atom.a.name, .slice a3 f.lit.atom.a.kids.length c3, .string f.lit.atom.b.name, .slice a5 f.lit.atom.b.kids.length c5, .slice a6 f.lit.atom.nums.length c6, .slice a7 f.lit.atom.times.length c7, .int .i64 f.lit.atom.bound, .bool f.lit.atom.strict, .bool f.lit.no, .slice a11 f.kids.length c11] 36)) (.slice la l.length lc) wr ov) (fun _ i _ => f.kids.length - (intOf i).toNat)
  case atStart => exact ⟨0, fp, Nat.zero_le _, rfl, hown, Lib.hid fun y hy => .inl hy, Moved.refl _ _⟩
  case round =>
   clear hown
   obtain ⟨k, fq, hkl, rfl, hown, hsub, hm⟩ := hrel
   have hz := Nat.le_trans hba.size hm.size
   have hp' := fun j => zbd hm HOB.out j
   have C0 := hp' 0
   have C11 := hp' 11
   simp only [zfG, zfE, zfF] at C0 C11
   clear hp'
   have hln := Fm.tells_len (f.kids.take k) l
   have hle := zC Fm.cd f.kids k
   rw [← List.map_take] at hle
   have hlk : (f.kids.take k).length ≤ k := by simp; omega
   by_cases hlt : k < f.kids.length
   ·have hkr := hk.same _ (hm.same (hk.lt _) hna)
    have hka := hm.away (hk.lt _) hna
    obtain ⟨b, off, rfl, hbs, _⟩ := zr hk (by omega)
    obtain ⟨b3, e3, g3, b5, e5, g5, b6, e6, g6, b7, e7, g7, b11, e11, g11, d0, d1, d2, d3, d4, d5, d6, d7, d8, d9, d10, d11, n0, n1, n2, n3, n4, n5, n6, n7, n8, n9, hsb⟩ := Fm.at hkr hlt
    have hbz : b < wr.heap.size := zfH hbs hm.size
    have hle2 := zC Fm.cd f.kids (k + 1)
    rw [zG Fm.cd f.kids k hlt, ← List.map_take] at hle2
    go_wp2_with fail
    refine (IH.out f.kids[k] (Fm.tells l (f.kids.take k)) _ _ _ fq base _ (HN.out _ (zfK hlt)) (by omega) (by omega) (by omega) hown (by exact (Fm.close n0 n1 n2 n3 n4 n5 n6 n7 n8 n9)) (fun y hy => hka y (hsb y hy))).mono ?_
    rintro e w2 ⟨lv2, fp2, rfl, hown2, hsub2, hm2⟩
    go_wp2_with fail
    go_roundw
    case rel => exact ⟨k + 1, fp2, by omega, by go_num, by rw [Fm.tells_succ _ _ _ hlt]; exact hown2, Lib.hid fun y hy => (hsub2 y hy).elim (fun h => hsub.out y h) (fun h => .inr (hsb y h)), hm.trans hm2⟩
    case measure => simp [intOf]; omega
   ·have he : f.kids.take k = f.kids := List.take_of_length_le (by omega)
    rw [he] at hown
    go_wp2_with fail
    go_ret
    exact ⟨_, fq, rfl, by rw [HE.out]; exact hown, fun y hy => (hsub.out y hy).elim .inl (fun h => .inr (by rw [HFF.out]; simp [h])), Moved.after hba hm⟩
theorem zes (f : Fm) (vs : List Value) (ff : List Nat) (w : World) (hbig : wtV f.cd ≤ 1048576) (hv : RdVs w f.cd vs ff) :
  Calls Tryz.prog 40 #[.agg vs.toArray] w fun e w' => e = .returned (.bool f.okF) ∧ Below w.heap.size w w' := by
 rw [Fm.okF_right]
 have hv0 := hv
 obtain ⟨a3, c3, f3, a5, c5, f5, a6, c6, f6, a7, c7, f7, a11, c11, f11, rfl, -, m0, m1, m2, m3, m4, m5, m6, m7, m8, m9⟩ := Fm.open hv
 clear hv
 have hln := Fm.tell_len f []
 have hmn := Fm.many_le f 5
 go_enter Tryz.func40, Tryz.ntmps40
 go_wp2_with fail
 refine (l9Shape_n _ f 5 _ _ _ (Nat.le_refl _) hbig (by omega) (by omega) (by exact hv0.below (zd _ _))).mono ?_
 rintro e w1 ⟨rfl, hb1⟩
 have HBX := Lib.hid (zq (n := w.heap.size + 1) hb1 (by simp))
 obtain ⟨hx, hz1, hB⟩ := box1 (w := w) (wr := w1) (cs := #[.int .i64 f.kind, .int .i64 f.lit.atom.kind, .string f.lit.atom.a.name, .slice a3 f.lit.atom.a.kids.length c3, .string f.lit.atom.b.name, .slice a5 f.lit.atom.b.kids.length c5, .slice a6 f.lit.atom.nums.length c6, .slice a7 f.lit.atom.times.length c7, .int .i64 f.lit.atom.bound, .bool f.lit.atom.strict, .bool f.lit.no, .slice a11 f.kids.length c11]) (T := 36) (zq hb1 (by simp))
 have C0 := hx 0
 have C1 := hx 1
 have C2 := hx 2
 have C3 := hx 3
 have C4 := hx 4
 have C5 := hx 5
 have C6 := hx 6
 have C7 := hx 7
 have C8 := hx 8
 have C9 := hx 9
 have C10 := hx 10
 have C11 := hx 11
 simp only [zfG, zfE, zfF] at C0 C1 C2 C3 C4 C5 C6 C7 C8 C9 C10 C11
 clear hb1 hx
 have h55 : (5 : Int).toNat = 5 := rfl
 rw [h55]
 clear h55
 cases hsh : Fm.shape 5 f
 ·have HE := Lib.hid (show f.rightF = false by unfold Fm.rightF; simp [hsh])
  clear hsh
  go_wp2_with fail
  go_ret
  exact ⟨retB HE.out.symm, hB⟩
 ·go_wp2_with fail
  refine (l9Many_n _ f 5 _ _ _ (Nat.le_refl _) hbig (by omega) (by omega) (by exact hv0.below hB)).mono ?_
  rintro e w2 ⟨rfl, hb2⟩
  obtain ⟨hx, hz2, hB2⟩ := box1 (w := w) (wr := w2) (cs := #[.int .i64 f.kind, .int .i64 f.lit.atom.kind, .string f.lit.atom.a.name, .slice a3 f.lit.atom.a.kids.length c3, .string f.lit.atom.b.name, .slice a5 f.lit.atom.b.kids.length c5, .slice a6 f.lit.atom.nums.length c6, .slice a7 f.lit.atom.times.length c7, .int .i64 f.lit.atom.bound, .bool f.lit.atom.strict, .bool f.lit.no, .slice a11 f.kids.length c11]) (T := 36) (HBX.out.trans (hb2.mono (by omega)))
  clear C0 C1 C2 C3 C4 C5 C6 C7 C8 C9 C10 C11
  have C0 := hx 0
  have C1 := hx 1
  have C2 := hx 2
  have C3 := hx 3
  have C4 := hx 4
  have C5 := hx 5
  have C6 := hx 6
  have C7 := hx 7
  have C8 := hx 8
  have C9 := hx 9
  have C10 := hx 10
  have C11 := hx 11
  simp only [zfG, zfE, zfF] at C0 C1 C2 C3 C4 C5 C6 C7 C8 C9 C10 C11
  have h55 : (5 : Int).toNat = 5 := rfl
  rw [h55]
  clear h55 hx hB
  by_cases h1 : Fm.many 5 f ≤ 10
  ·have HE0 := Lib.hid (show f.rightF = decide (((Fm.tell [] f).length : Int) ≤ 6) by unfold Fm.rightF; rw [Bool.eq_iff_iff]; simp [hsh, h1]; try omega)
   clear hsh
   go_wp2_with fail
   refine (zdU _ f [] _ _ (.slice none 0 0) [] w2.heap.size _ (Nat.le_refl _) hbig (by simp; omega) (Nat.le_refl _) (Own.nil _ _ _ _) (by exact hv0.below hB2) (by simp [Value.ownBlock])).mono ?_
   rintro e w3 ⟨lv, fp, rfl, hown, _, hm⟩
   obtain ⟨la, lc, rfl, _, _⟩ := hown.form
   have hB3 := hB2.trans (hm.toBelow (B := w.heap.size) (by omega) (by simp [Value.ownBlock]))
   rw [zfO]
   clear hm hown
   go_wp2_with fail
   go_ret
   exact ⟨retB HE0.out.symm, hB3⟩
  ·have HE := Lib.hid (show f.rightF = false by unfold Fm.rightF; simp [h1])
   clear hsh
   go_wp2_with fail
   go_ret
   exact ⟨retB HE.out.symm, hB2⟩
mutual
theorem Fm.add_wt : ∀ (f : Fm) (l : List Atm), wtR ((Fm.add l f).map Atm.cd) ≤ wtR (l.map Atm.cd) + wtV f.cd
 | .mk kind lit kids, l => by
  have h := Fm.adds_wt kids l
  have h2 := Fm.wt_eq (.mk kind lit kids)
  simp only [Fm.kids, Fm.lit, Lt.cd, zK, zaz] at h2
  simp only [Fm.add]
  split
  ·rw [zfM, zah]; simp [wtR]; omega
  ·omega
theorem Fm.adds_wt : ∀ (ks : List Fm) (l : List Atm), wtR ((Fm.adds l ks).map Atm.cd) ≤ wtR (l.map Atm.cd) + wtR (ks.map Fm.cd)
 | [], l => by simp [Fm.adds, wtR]
 | k :: ks, l => by
  have h1 := Fm.add_wt k l
  have h2 := Fm.adds_wt ks (Fm.add l k)
  simp only [Fm.adds, List.map_cons, zaf]; omega
end
theorem zcHU {α : Type} {cd : α → List CD} : ∀ {l : List α} {x : α}, x ∈ l → wtV (cd x) ≤ wtR (l.map cd)
 | a :: l, x, h => by
  rw [List.map_cons, zaf]
  rcases zfN.1 h with rfl | h
  ·omega
  ·have := zcHU (cd := cd) h; omega
theorem zcI (fs : List Fm) (v : Value) (ff : List Nat) (w : World) (hbig : fs.length + wtR (fs.map Fm.cd) ≤ 1048576) (hv : Rd w (.sl (fs.map Fm.cd)) v ff) :
  Calls Tryz.prog 57 #[v] w fun e w' => ∃ rv fp, e = .returned rv ∧ Own w' w.heap.size 31 9 rv ((Fm.tells [] fs).map Atm.cd) fp ∧ (∀ y ∈ fp, y ∈ ff) ∧ Below w.heap.size w w' := by
 obtain ⟨a, cap, rfl, hc1, hc2⟩ := zh hv
 go_enter Tryz.func57, Tryz.ntmps57
 go_wp2_with fail
 go_loopw [3, 4] (fun ov i wr => ∃ (k : Nat) (fp : List Nat), k ≤ fs.length ∧ i = .int .i64 k ∧ Own wr w.heap.size 31 9 ov ((Fm.tells [] (fs.take k)).map Atm.cd) fp ∧ Hid (∀ y ∈ fp, y ∈ ff) ∧ Below w.heap.size w wr) (fun _ i _ => fs.length - (intOf i).toNat)
 case atStart => exact ⟨0, [], Nat.zero_le _, rfl, Own.empty _ _ _ _ (Nat.le_refl _), Lib.hid (by simp), zd _ _⟩
 case round =>
  obtain ⟨k, fp, hkl, rfl, hown, hsub, hb⟩ := hrel
  have hz := hb.size
  have hln := Fm.tells_len (fs.take k) []
  have hle := zC Fm.cd fs k
  rw [← List.map_take] at hle
  have hlk : (fs.take k).length ≤ k := by simp; omega
  simp only [List.length_nil, Nat.zero_add] at hln
  by_cases hlt : k < fs.length
  ·obtain ⟨b, off, rfl, hbs, _⟩ := zr hv (by omega)
   obtain ⟨b3, e3, g3, b5, e5, g5, b6, e6, g6, b7, e7, g7, b11, e11, g11, d0, d1, d2, d3, d4, d5, d6, d7, d8, d9, d10, d11, n0, n1, n2, n3, n4, n5, n6, n7, n8, n9, hsb⟩ := Fm.at (hv.below hb) hlt
   have hbz : b < wr.heap.size := by omega
   have hle2 := zC Fm.cd fs (k + 1)
   rw [zG Fm.cd fs k hlt, ← List.map_take] at hle2
   have hna : ∀ y ∈ g3 ++ (g5 ++ (g6 ++ (g7 ++ g11))), u3.ownBlock ≠ some y := fun y hy => hown.row_ne (hv.lt _ y (hsb y hy))
   go_wp2_with fail
   refine (zdU _ fs[k] (Fm.tells [] (fs.take k)) _ _ _ fp w.heap.size _ (Nat.le_refl _) (by omega) (by omega) (by omega) (by exact hown) (by exact (Fm.close n0 n1 n2 n3 n4 n5 n6 n7 n8 n9)) hna).mono ?_
   rintro e w2 ⟨lv2, fp2, rfl, hown2, hsub2, hm2⟩
   have hB2 := hb.trans (hm2.toBelow (B := w.heap.size) (by omega) (fun b h => (hown.block h).1))
   go_wp2_with fail
   go_roundw
   case rel => exact ⟨k + 1, fp2, by omega, by go_num, by rw [Fm.tells_succ _ _ _ hlt]; exact hown2, Lib.hid fun y hy => (hsub2 y hy).elim (hsub.out y) (hsb y), hB2⟩
   case measure => simp [intOf]; omega
  ·have he : fs.take k = fs := List.take_of_length_le (by omega)
   rw [he] at hown
   go_wp2_with fail
   go_ret
   exact ⟨_, fp, rfl, hown, hsub.out, hb⟩
theorem Fm.ok_adds : ∀ (fs : List Fm) (l : List Atm), fs.all Fm.okF = true → Fm.adds l fs = Fm.tells l fs
 | [], l, _ => rfl
 | f :: fs, l, h => by
  rw [List.all_cons, zfP] at h
  have h1 := h.1
  rw [Fm.okF_right] at h1
  simp only [Fm.rightF, zfP] at h1
  simp only [Fm.adds, Fm.tells]
  rw [Fm.add_tell f 5 l h1.1.1, Fm.ok_adds fs _ h.2]
theorem zet {fs : List Fm} (h : fs.all Fm.okF = true) : zaF fs = (decide (fs.length ≤ 5) && decide ((Fm.tells [] fs).length ≤ 6)) := by
 unfold zaF; rw [h, Fm.ok_adds fs [] h]; rfl
theorem zdV (fs : List Fm) (v : Value) (ff : List Nat) (w : World) (hbig : fs.length + wtR (fs.map Fm.cd) ≤ 1048576) (hv : Rd w (.sl (fs.map Fm.cd)) v ff) :
  Calls Tryz.prog 56 #[v] w fun e w' => e = .returned (.bool (zaF fs)) ∧ Below w.heap.size w w' := by
 obtain ⟨a, cap, rfl, hc1, hc2⟩ := zh hv
 go_enter Tryz.func56, Tryz.ntmps56
 go_wp2_with fail
 go_loopw [3] (fun i wr => ∃ (k : Nat), k ≤ fs.length ∧ i = .int .i64 k ∧ Hid ((fs.take k).all Fm.okF = true) ∧ Below w.heap.size w wr) (fun i _ => fs.length - (intOf i).toNat)
 case atStart => exact ⟨0, Nat.zero_le _, rfl, Lib.hid (by simp), Below.refl _ _⟩
 case round =>
  obtain ⟨k, hkl, rfl, hall, hb⟩ := hrel
  have hz := hb.size
  by_cases hlt : k < fs.length
  ·obtain ⟨b, off, rfl, hbs, _⟩ := zr hv (by omega)
   obtain ⟨b3, e3, g3, b5, e5, g5, b6, e6, g6, b7, e7, g7, b11, e11, g11, d0, d1, d2, d3, d4, d5, d6, d7, d8, d9, d10, d11, n0, n1, n2, n3, n4, n5, n6, n7, n8, n9, hsb⟩ := Fm.at (hv.below hb) hlt
   have hbz : b < wr.heap.size := by omega
   have hle2 := zC Fm.cd fs (k + 1)
   rw [zG Fm.cd fs k hlt] at hle2
   go_wp2_with fail
   refine (zes fs[k] _ _ _ (by omega) (by exact (Fm.close n0 n1 n2 n3 n4 n5 n6 n7 n8 n9))).mono ?_
   rintro e w1 ⟨rfl, hb1⟩
   cases hok : fs[k].okF
   ·have HO : Hid (zaF fs = false) := Lib.hid (by
     have : fs.all Fm.okF = false := by rw [List.all_eq_false]; exact ⟨fs[k], zfK hlt, by simp [hok]⟩
     unfold zaF; simp [this])
    clear hok
    go_wp2_with fail
    go_ret
    exact ⟨retB HO.out.symm, hb.trans (hb1.mono hz)⟩
   ·have HA : Hid ((fs.take (k + 1)).all Fm.okF = true) := Lib.hid (by rw [zfI hlt, List.all_append, hall.out]; simp [hok])
    clear hok
    go_wp2_with fail
    go_roundw
    case rel => exact ⟨k + 1, by omega, by go_num, HA, hb.trans (hb1.mono hz)⟩
    case measure => simp [intOf]; omega
  ·have he : fs.take k = fs := List.take_of_length_le (by omega)
   rw [he] at hall
   have HO := Lib.hid (zet hall.out)
   have hln := Fm.tells_len fs []
   simp only [List.length_nil, Nat.zero_add] at hln
   clear he
   by_cases h5 : fs.length ≤ 5
   ·have HE : Hid (zaF fs = decide (((Fm.tells [] fs).length : Int) ≤ 6)) := Lib.hid (by rw [HO.out, Bool.eq_iff_iff]; simp [h5]; try omega)
    go_wp2_with fail
    refine (zcI fs _ _ _ hbig (hv.below hb)).mono ?_
    rintro e w2 ⟨rv, fp, rfl, hown, _, hb2⟩
    obtain ⟨la, lc, rfl, _, _⟩ := hown.form
    rw [zfO]
    clear hown
    go_wp2_with fail
    go_ret
    exact ⟨retB HE.out.symm, hb.trans (hb2.mono hz)⟩
   ·have HE : Hid (zaF fs = false) := Lib.hid (by rw [HO.out]; simp [h5])
    go_wp2_with fail
    go_ret
    exact ⟨retB HE.out.symm, hb⟩
end Go.Proofs.YtbfinjiledfpcaaGreat
end
