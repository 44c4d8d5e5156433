/- Parts of the proof: FormT. -/
import Derived.Test.YtoehhbkhdddeeaaDoorPx41
import Derived.Test.YtoehhbkhdddeeaaDoorPx43
section
namespace Go.Proofs.YtoehhbkhdddeeaaDoor
open Go Go.RowKit
set_option linter.unusedVariables false
set_option linter.unusedSimpArgs false
set_option maxRecDepth 100000
set_option maxHeartbeats 16000000
theorem zbI (x : Atm) (l : List Atm) (v : Value) (vs : List Value) (g f : List Nat) (w : World) (hl : Rd w (.sl (l.map Atm.cd)) v g) (hx : RdVs w x.cd vs f) :
  Calls Tryd.prog 123 #[v, .agg vs.toArray] w fun e w' => (∃ n, e = .returned (.int .i64 n) ∧ FirstOf (fun y => eqV y.cd x.cd) l n) ∧ Below w.heap.size w w' := by
 obtain ⟨a, cap, rfl, hc1, hc2⟩ := ze hl
 obtain ⟨a2, c2, f2, a4, c4, f4, a5, c5, f5, a6, c6, f6, rfl, -, m0, m1, m2, m3, m4, m5, m6, m7⟩ := Atm.open hx
 go_enter Tryd.func123, Tryd.ntmps123
 go_wp2_with fail
 go_loopw [5] (fun i wr => ∃ k : Nat, k ≤ l.length ∧ i = .int .i64 k ∧ Hid ((l.take k).all (fun t => !eqV t.cd x.cd) = true) ∧ Below (w.heap.size + 1) (w.alloc (.cells #[.int .i64 x.kind, .string x.a.name, .slice a2 x.a.kids.length c2, .string x.b.name, .slice a4 x.b.kids.length c4, .slice a5 x.nums.length c5, .slice a6 x.times.length c6, .int .i64 x.bound, .bool x.strict] 28)) wr) (fun i _ => l.length - (intOf i).toNat)
 case atStart => exact ⟨0, Nat.zero_le _, rfl, Lib.hid (by simp), Below.refl _ _⟩
 case round =>
  obtain ⟨k, hkl, rfl, hall, hbx⟩ := hrel
  obtain ⟨hx', hz1, hb⟩ := box1 (w := w) (wr := wr) (cs := #[.int .i64 x.kind, .string x.a.name, .slice a2 x.a.kids.length c2, .string x.b.name, .slice a4 x.b.kids.length c4, .slice a5 x.nums.length c5, .slice a6 x.times.length c6, .int .i64 x.bound, .bool x.strict]) (T := 28) hbx
  have C0 := hx' 0
  have C1 := hx' 1
  have C2 := hx' 2
  have C3 := hx' 3
  have C4 := hx' 4
  have C5 := hx' 5
  have C6 := hx' 6
  have C7 := hx' 7
  have C8 := hx' 8
  simp only [zci, zcg, zch] at C0 C1 C2 C3 C4 C5 C6 C7 C8
  have hz := hb.size
  by_cases hlt : k < l.length
  ·obtain ⟨b, off, rfl, hbs, _⟩ := zk hl (by omega)
   have hbx0 := Lib.hid hbx
   have HX : Hid (RdVs wr x.cd [.int .i64 x.kind, .string x.a.name, .slice a2 x.a.kids.length c2, .string x.b.name, .slice a4 x.b.kids.length c4, .slice a5 x.nums.length c5, .slice a6 x.times.length c6, .int .i64 x.bound, .bool x.strict] (f2 ++ (f4 ++ (f5 ++ f6)))) := Lib.hid ((Atm.close m0 m1 m2 m3 m4 m5 m6 m7) |>.below hb)
   obtain ⟨a2y, c2y, f2y, a4y, c4y, f4y, a5y, c5y, f5y, a6y, c6y, f6y, d0y, d1y, d2y, d3y, d4y, d5y, d6y, d7y, d8y, n0y, n1y, n2y, n3y, n4y, n5y, n6y, n7y, hsuby⟩ := Atm.at (hl.below hb) hlt
   have HY := Lib.hid (Atm.close n0y n1y n2y n3y n4y n5y n6y n7y)
   have hbz : b < wr.heap.size := by omega
   clear hx' hbx
   go_wp2_with fail
   have qC0 := cell_regrown C0
   have qC1 := cell_regrown C1
   have qC2 := cell_regrown C2
   have qC3 := cell_regrown C3
   have qC4 := cell_regrown C4
   have qC5 := cell_regrown C5
   have qC6 := cell_regrown C6
   have qC7 := cell_regrown C7
   have qC8 := cell_regrown C8
   have qd0y := cell_regrown d0y
   have qd1y := cell_regrown d1y
   have qd2y := cell_regrown d2y
   have qd3y := cell_regrown d3y
   have qd4y := cell_regrown d4y
   have qd5y := cell_regrown d5y
   have qd6y := cell_regrown d6y
   have qd7y := cell_regrown d7y
   have qd8y := cell_regrown d8y
   clear C0 C1 C2 C3 C4 C5 C6 C7 C8 d0y d1y d2y d3y d4y d5y d6y d7y d8y
   refine wp_region_quiet_below (by kernel_rfl) (by kernel_rfl) ?_
   repeat (quiet_step (first | (go_at_call 122; with_reducible refine Calls.regrown_of (za5 l[k] x _ _ _ _ _ (HY.out.below (below_regrown _ _ _)) (HX.out.below (below_regrown _ _ _))))))
   refine wpQuiet_nil ?_
   intro w2 hw2
   obtain ⟨⟨dq, osq⟩, hw2⟩ := hw2
   have hbq : Below (wr).heap.size (wr) w2 := hw2 ▸ below_regrown (wr) dq osq
   clear hw2 qC0 qC1 qC2 qC3 qC4 qC5 qC6 qC7 qC8 qd0y qd1y qd2y qd3y qd4y qd5y qd6y qd7y qd8y
   have hbx : Below (w.heap.size + 1) (w.alloc (.cells #[.int .i64 x.kind, .string x.a.name, .slice a2 x.a.kids.length c2, .string x.b.name, .slice a4 x.b.kids.length c4, .slice a5 x.nums.length c5, .slice a6 x.times.length c6, .int .i64 x.bound, .bool x.strict] 28)) w2 := hbx0.out.trans (hbq.mono (by omega))
   cases he : eqV l[k].cd x.cd
   ·have HE := Lib.hid (FirstOf.succ hlt hall.out he)
    clear he
    go_wp2_with fail
    go_roundw
    case rel => exact ⟨k + 1, by omega, by go_num, HE, hbx⟩
    case measure => simp [intOf]; omega
   ·have HE : Hid (FirstOf (fun y => eqV y.cd x.cd) l (k : Int)) := Lib.hid (.inr ⟨k, hlt, rfl, he, hall.out⟩)
    clear he
    go_wp2_with fail
    go_ret
    exact ⟨⟨k, rfl, HE.out⟩, hb.trans (hbq.mono hz)⟩
  ·have HE : Hid (FirstOf (fun y => eqV y.cd x.cd) l (-1)) := Lib.hid (.inl ⟨rfl, by have := hall.out; rwa [List.take_of_length_le (by omega)] at this⟩)
   go_wp2_with fail
   go_ret
   exact ⟨⟨-1, rfl, HE.out⟩, hb⟩
def addA (l : List Atm) (x : Atm) : List Atm := if hasA l x = true then l else l ++ [x]
theorem addA_yes {l : List Atm} {x : Atm} (h : hasA l x = true) : addA l x = l := if_pos h
theorem addA_no {l : List Atm} {x : Atm} (h : hasA l x = false) : addA l x = l ++ [x] := by unfold addA; rw [h]; rfl
def AtmOut (l' : List Atm) (base : Nat) (lv : Value) (fp f : List Nat) (w : World) (e : Ending) (w' : World) : Prop :=
 ∃ lv' fp', e = .returned lv' ∧ Own w' base 28 9 lv' (l'.map Atm.cd) fp' ∧ (∀ y ∈ fp', y ∈ fp ∨ y ∈ f) ∧ Moved w lv w' lv'
theorem l9Add_any (x : Atm) (l : List Atm) (lv : Value) (vs : List Value) (fp f : List Nat) (base : Nat) (w : World) (hbase : base ≤ w.heap.size) (hlen : l.length ≤ 1000000000) (hown : Own w base 28 9 lv (l.map Atm.cd) fp) (hx : RdVs w x.cd vs f) (hna : ∀ y ∈ f, lv.ownBlock ≠ some y) :
  Calls Tryd.prog 106 #[lv, .agg vs.toArray] w (AtmOut (addA l x) base lv fp f w) := by
 obtain ⟨a2, c2, f2, a4, c4, f4, a5, c5, f5, a6, c6, f6, rfl, rfl, m0, m1, m2, m3, m4, m5, m6, m7⟩ := Atm.open hx
 have hat := Atm.close m0 m1 m2 m3 m4 m5 m6 m7
 have hff := hat
 have hba := za w (.cells #[.int .i64 x.kind, .string x.a.name, .slice a2 x.a.kids.length c2, .string x.b.name, .slice a4 x.b.kids.length c4, .slice a5 x.nums.length c5, .slice a6 x.times.length c6, .int .i64 x.bound, .bool x.strict] 28)
 obtain ⟨fpr, hrd⟩ := hown.rd'
 obtain ⟨la, lc, hlv, hl1, hl2⟩ := hown.form
 rw [zcq] at hlv hl1
 subst hlv
 go_enter Tryd.func106, Tryd.ntmps106
 go_wp2_with fail
 refine (zbI x l _ _ _ _ _ (hrd.below hba) (by exact hat.below hba)).mono ?_
 rintro e w1 ⟨⟨q, rfl, hq⟩, hb1⟩
 obtain ⟨hx', hz1, hB⟩ := box1 (w := w) (wr := w1) (cs := #[.int .i64 x.kind, .string x.a.name, .slice a2 x.a.kids.length c2, .string x.b.name, .slice a4 x.b.kids.length c4, .slice a5 x.nums.length c5, .slice a6 x.times.length c6, .int .i64 x.bound, .bool x.strict]) (T := 28) (zg hb1 (by simp))
 have C0 := hx' 0
 have C1 := hx' 1
 have C2 := hx' 2
 have C3 := hx' 3
 have C4 := hx' 4
 have C5 := hx' 5
 have C6 := hx' 6
 have C7 := hx' 7
 have C8 := hx' 8
 simp only [zci, zcg, zch] at C0 C1 C2 C3 C4 C5 C6 C7 C8
 clear hb1 hx'
 have hbd := hq.bd
 have HNEG := Lib.hid hq.neg
 clear hq hrd
 by_cases hq0 : q < 0
 ·have HE := Lib.hid (addA_no (HNEG.out.1 hq0))
  have hown3 := hown.below (hB.alloc hB.size (.cells #[.int .i64 x.kind, .string x.a.name, .slice a2 x.a.kids.length c2, .string x.b.name, .slice a4 x.b.kids.length c4, .slice a5 x.nums.length c5, .slice a6 x.times.length c6, .int .i64 x.bound, .bool x.strict] 28))
  have hr3' := (hat.below hB).below (za w1 (.cells #[.int .i64 x.kind, .string x.a.name, .slice a2 x.a.kids.length c2, .string x.b.name, .slice a4 x.b.kids.length c4, .slice a5 x.nums.length c5, .slice a6 x.times.length c6, .int .i64 x.bound, .bool x.strict] 28))
  have hzB := hB.size
  go_wp2_with (at_builtin; refine zM zbk rfl _ _ rfl base _ _ _ rfl hown3 ⟨w1.heap.size, 0, none⟩ 1 1 [x.cd] [.int .i64 x.kind, .string x.a.name, .slice a2 x.a.kids.length c2, .string x.b.name, .slice a4 x.b.kids.length c4, .slice a5 x.nums.length c5, .slice a6 x.times.length c6, .int .i64 x.bound, .bool x.strict] (f2 ++ (f4 ++ (f5 ++ f6))) rfl rfl ?rd ?k ?cells ?na ?bytes ?len ?base ?next)
  case rd => simpa using hr3'
  case k => simp [Atm.cd_len]
  case cells => exact zaa _ _ _
  case na => exact hna
  case bytes => (try rw [zcq]); (try simp); omega
  case len => (try rw [zcq]); (try simp); omega
  case base => simp; omega
  case next =>
   intro v' w4 hown4 hg hv' hs4
   go_wp2_with fail
   go_ret
   exact ⟨v', _, rfl, by rw [HE.out]; simpa using hown4, fun y hy => zcl.1 hy, Moved.after (hB.alloc hB.size _) ⟨hg, by simpa using hv'⟩⟩
 ·have HE := Lib.hid (show addA l x = l by
   cases hh : hasA l x
   ·exact absurd (HNEG.out.2 hh) hq0
   ·exact addA_yes hh)
  have hown3 := hown.below hB
  go_wp2_with fail
  go_ret
  exact ⟨_, fp, rfl, by rw [HE.out]; exact hown3, fun y hy => .inl hy, Moved.after hB (Moved.refl _ _)⟩
theorem l9Atoms_n (n : Nat) : ∀ (f : Fm) (l : List Atm) (vs : List Value) (ff : List Nat) (lv : Value) (fp : List Nat) (base : Nat) (w : World), ndV f.cd ≤ n → wtV f.cd ≤ 1048576 → l.length + wtV f.cd ≤ 1000000000 → base ≤ w.heap.size →
   Own w base 28 9 lv (l.map Atm.cd) fp → RdVs w f.cd vs ff → (∀ y ∈ ff, lv.ownBlock ≠ some y) →
  Calls Tryd.prog 83 #[lv, .agg vs.toArray] w fun e w' => ∃ lv' fp', e = .returned lv' ∧ Own w' base 28 9 lv' ((Fm.tell l f).map Atm.cd) fp' ∧ (∀ y ∈ fp', y ∈ fp ∨ y ∈ ff) ∧ Moved w lv w' lv' := by
 induction n with
 | zero =>
  intro f l vs ff lv fp base w hn; have h : 0 < ndV f.cd := by rw [Fm.cd_eq]; simp [ndV, ndC]; try omega
  omega
 | succ n ih =>
 intro f l vs ff lv fp base w hn hbig hsum hbase hown0 hv hna0
 have HN : Hid (∀ k ∈ f.kids, ndV k.cd ≤ n) := fun k hk => by have := Fm.kid_nd hk; omega
 have IH := Lib.hid ih
 clear ih
 obtain ⟨a3, c3, f3, a5, c5, f5, a6, c6, f6, a7, c7, f7, a11, c11, f11, rfl, hff, m0, m1, m2, m3, m4, m5, m6, m7, m8, m9⟩ := Fm.open hv
 have HFF := Lib.hid hff
 clear hv hff
 have hat := Atm.close (x := f.lit.atom) m1 m2 m3 m4 m5 m6 m7 m8
 have hw := Nat.le_of_eq (Fm.wt_eq f).symm
 have hba := za w (.cells #[.int .i64 f.kind, .int .i64 f.lit.atom.kind, .string f.lit.atom.a.name, .slice a3 f.lit.atom.a.kids.length c3, .string f.lit.atom.b.name, .slice a5 f.lit.atom.b.kids.length c5, .slice a6 f.lit.atom.nums.length c6, .slice a7 f.lit.atom.times.length c7, .int .i64 f.lit.atom.bound, .bool f.lit.atom.strict, .bool f.lit.no, .slice a11 f.kids.length c11] 60)
 have hp := zu w #[.int .i64 f.kind, .int .i64 f.lit.atom.kind, .string f.lit.atom.a.name, .slice a3 f.lit.atom.a.kids.length c3, .string f.lit.atom.b.name, .slice a5 f.lit.atom.b.kids.length c5, .slice a6 f.lit.atom.nums.length c6, .slice a7 f.lit.atom.times.length c7, .int .i64 f.lit.atom.bound, .bool f.lit.atom.strict, .bool f.lit.no, .slice a11 f.kids.length c11] 60
 have hown := hown0.below hba
 have HOB : Hid (∀ b, lv.ownBlock = some b → b < w.heap.size) := Lib.hid fun b hb => (hown0.block hb).2
 clear hown0
 have hk := m9.below hba
 have hna : ∀ y ∈ f11, lv.ownBlock ≠ some y := fun y hy => hna0 y (by rw [HFF.out]; simp [hy])
 have hE := Fm.tell_eq l f
 obtain ⟨la, lc, hlv, hl1, hl2⟩ := hown.form
 rw [zcq] at hlv hl1
 subst hlv
 by_cases k1 : f.kind = 1
 ·have tk : (f.kind == 1) = true := by simp [k1]
  rw [if_pos k1] at hE
  have HE := Lib.hid hE
  clear hE k1
  go_enter Tryd.func83, Tryd.ntmps83
  go_wp2_with fail
  refine (l9Add_any f.lit.atom l _ _ _ _ base _ (by simp; omega) (by omega) hown (by exact hat.below hba) (fun y hy => hna0 y (by rw [HFF.out]; simp only [zcl] at hy ⊢; rcases hy with h | h | h | h <;> simp [h]))).mono ?_
  rintro e w1 ⟨lv1, fp1, rfl, hown1, hsub1, hm1⟩
  go_wp2_with fail
  go_ret
  refine ⟨_, _, rfl, by rw [HE.out]; exact hown1, fun y hy => ?_, Moved.after hba hm1⟩
  rcases hsub1 y hy with h | h
  ·exact .inl h
  ·right; rw [HFF.out]; simp only [zcl] at h ⊢; rcases h with h | h | h | h <;> simp [h]
 ·have tk : (f.kind == 1) = false := by simp [k1]
  rw [if_neg k1] at hE
  have HE := Lib.hid hE
  clear hE k1
  go_enter Tryd.func83, Tryd.ntmps83
  go_wp2_with fail
  go_loopw [0, 5] (fun ov i wr => ∃ (k : Nat) (fq : List Nat), k ≤ f.kids.length ∧ i = .int .i64 k ∧ Own wr base 28 9 ov ((Fm.tells l (f.kids.take k)).map Atm.cd) fq ∧ Hid (∀ y ∈ fq, y ∈ fp ∨ y ∈ f11) ∧ Moved (w.alloc (.cells #[.int .i64 f.kind, .int .i64 f.lit.atom.kind, .string f.lit.atom.a.name, .slice a3 f.lit.atom.a.kids.length c3, .string f.lit.atom.b.name, .slice a5 f.lit.atom.b.kids.length c5, .slice a6 f.lit.atom.nums.length c6, .slice a7 f.lit.atom.times.length c7, .int .i64 f.lit.atom.bound, .bool f.lit.atom.strict, .bool f.lit.no, .slice a11 f.kids.length c11] 60)) (.slice la l.length lc) wr ov) (fun _ i _ => f.kids.length - (intOf i).toNat)
  case atStart => exact ⟨0, fp, Nat.zero_le _, rfl, hown, Lib.hid fun y hy => .inl hy, Moved.refl _ _⟩
  case round =>
   clear hown
   obtain ⟨k, fq, hkl, rfl, hown, hsub, hm⟩ := hrel
   have hz := Nat.le_trans hba.size hm.size
   have hp' := fun j => moved_box hm HOB.out j
   have C0 := hp' 0
   have C11 := hp' 11
   simp only [zci, zcg, zch] at C0 C11
   clear hp'
   have hln := Fm.tells_len (f.kids.take k) l
   have hle := zj Fm.cd f.kids k
   rw [← List.map_take] at hle
   have hlk : (f.kids.take k).length ≤ k := by simp; omega
   by_cases hlt : k < f.kids.length
   ·have hkr := hk.same _ (hm.same (hk.lt _) hna)
    have hka := hm.away (hk.lt _) hna
    obtain ⟨b, off, rfl, hbs, _⟩ := zk hk (by omega)
    obtain ⟨b3, e3, g3, b5, e5, g5, b6, e6, g6, b7, e7, g7, b11, e11, g11, d0, d1, d2, d3, d4, d5, d6, d7, d8, d9, d10, d11, n0, n1, n2, n3, n4, n5, n6, n7, n8, n9, hsb⟩ := Fm.at hkr hlt
    have hbz : b < wr.heap.size := zcj hbs hm.size
    have hle2 := zj Fm.cd f.kids (k + 1)
    rw [zm Fm.cd f.kids k hlt, ← List.map_take] at hle2
    go_wp2_with fail
    refine (IH.out f.kids[k] (Fm.tells l (f.kids.take k)) _ _ _ fq base _ (HN.out _ (zcm hlt)) (by omega) (by omega) (by omega) hown (by exact (Fm.close n0 n1 n2 n3 n4 n5 n6 n7 n8 n9)) (fun y hy => hka y (hsb y hy))).mono ?_
    rintro e w2 ⟨lv2, fp2, rfl, hown2, hsub2, hm2⟩
    go_wp2_with fail
    go_roundw
    case rel => exact ⟨k + 1, fp2, by omega, by go_num, by rw [Fm.tells_succ _ _ _ hlt]; exact hown2, Lib.hid fun y hy => (hsub2 y hy).elim (fun h => hsub.out y h) (fun h => .inr (hsb y h)), hm.trans hm2⟩
    case measure => simp [intOf]; omega
   ·have he : f.kids.take k = f.kids := List.take_of_length_le (by omega)
    rw [he] at hown
    go_wp2_with fail
    go_ret
    exact ⟨_, fq, rfl, by rw [HE.out]; exact hown, fun y hy => (hsub.out y hy).elim .inl (fun h => .inr (by rw [HFF.out]; simp [h])), Moved.after hba hm⟩
end Go.Proofs.YtoehhbkhdddeeaaDoor
end
