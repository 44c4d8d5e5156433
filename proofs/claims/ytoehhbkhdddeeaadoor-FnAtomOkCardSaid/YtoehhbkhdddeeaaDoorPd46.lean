/- Parts of the proof: Num. -/
import Derived.Test.YtoehhbkhdddeeaaDoorPd37
section
namespace Go.Proofs.YtoehhbkhdddeeaaDoor
open Go Go.RowKit
set_option linter.unusedVariables false
set_option linter.unusedSimpArgs false
set_option maxRecDepth 100000
set_option maxHeartbeats 16000000
def Tm.isNum (s : Sg) (t : Tm) : Bool := t.tsrt s == some 1
theorem Tm.isNum_none {s : Sg} {t : Tm} (h : t.tsrt s = none) : t.isNum s = false := by unfold Tm.isNum; rw [h]; rfl
theorem Tm.isNum_some {s : Sg} {t : Tm} {n : Int} (h : t.tsrt s = some n) : t.isNum s = (n == 1) := by unfold Tm.isNum; rw [h]; rfl
theorem Tm.rdv_of {w : World} {t : Tm} {v : Value} (h : TmR w t v) : ∃ a c f, v = .agg #[.string t.name, .slice a t.kids.length c] ∧ RdVs w t.cd [.string t.name, .slice a t.kids.length c] f := by
 obtain ⟨kv, rfl, hs, f, hk⟩ := h
 obtain ⟨a, c, rfl, _, _⟩ := zg hk
 exact ⟨a, c, f, rfl, Tm.rdv hs hk⟩
theorem zbu (s : Sg) (t : Tm) (vs : List Value) (v : Value) (f : List Nat) (w : World) (hv : RdVs w s.cd vs f) (hx : TmR w t v) :
  Calls Tryd.prog 43 #[.agg vs.toArray, v] w fun e w' => e = .returned (.bool (t.isNum s)) ∧ Below w.heap.size w w' := by
 obtain ⟨a0, c0, f0, rfl, _, m0⟩ := Sg.open hv
 obtain ⟨a, c, g, rfl, hr⟩ := Tm.rdv_of hx
 have hb0 : Below w.heap.size w ((w.alloc (.cells #[.slice a0 s.syms.length c0] 40)).alloc (.cells #[.string t.name, .slice a t.kids.length c] 25)) := (zb _ _).alloc (by simp) _
 go_enter Tryd.func43, Tryd.ntmps43
 go_wp2_with fail
 refine (zR s t _ _ _ _ _ (by exact hv.below hb0) (by exact hr.below hb0)).mono ?_
 rintro e w1 ⟨rfl, hb1⟩
 have hB := hb0.trans (hb1.mono hb0.size)
 clear hb1 hb0
 cases ho : t.tsrt s with
 | none =>
  have HF := Lib.hid (Tm.isNum_none ho)
  clear ho
  simp only [Option.getD_none, Option.isSome_none]
  go_wp2_with fail
  go_ret
  exact ⟨retB HF.out.symm, hB⟩
 | some n =>
  have HF := Lib.hid (Tm.isNum_some ho)
  clear ho
  simp only [Option.getD_some, Option.isSome_some]
  go_wp2_with fail
  go_ret
  exact ⟨retB HF.out.symm, hB⟩
/-- The place of the first of which p is so, or -1. -/
def FirstAt (p : Tm → Bool) (l : List Tm) (n : Int) : Prop := (n = -1 ∧ l.all (fun t => !p t) = true) ∨ ∃ (k : Nat) (h : k < l.length), n = k ∧ p l[k] = true ∧ (l.take k).all (fun t => !p t) = true
theorem none_succ {p : Tm → Bool} {l : List Tm} {k : Nat} (hk : k < l.length) (h : (l.take k).all (fun t => !p t) = true) (h' : p l[k] = false) : (l.take (k + 1)).all (fun t => !p t) = true := by
 rw [zcj hk, List.all_append, h]; simp [h']
theorem zbN (s : Sg) (t : Tm) (v : Value) (pb : Nat) (a0 : Option Addr) (c0 : Nat) (f0 : List Nat) (w : World) (hp : w.cell? ⟨pb, 0, none⟩ = some (.slice a0 s.syms.length c0)) (hv : RdVs w s.cd [.slice a0 s.syms.length c0] f0) (hx : TmR w t v) :
  Calls Tryd.prog 42 #[v, .pointer (some ⟨pb, 0, none⟩)] w fun e w' => e = .returned (.bool (!t.isNum s)) ∧ Below w.heap.size w w' := by
 obtain ⟨a, c, g, rfl, hr⟩ := Tm.rdv_of hx
 have hpz : pb < w.heap.size := World.block_lt_of_cell? w _ hp
 have hp' := za hp (zb w (.cells #[.string t.name, .slice a t.kids.length c] 25))
 go_enter Tryd.func42, Tryd.ntmps42
 go_wp2_with fail
 refine (zbu s t _ _ _ _ (by exact hv.below (zb _ _)) (by exact hx.below (zb _ _))).mono ?_
 rintro e w1 ⟨rfl, hb1⟩
 go_wp2_with fail
 go_ret
 exact ⟨rfl, (zb _ _).trans (hb1.mono (by simp))⟩
theorem zbc (s : Sg) (l : List Tm) (v : Value) (f : List Nat) (pb : Nat) (a0 : Option Addr) (c0 : Nat) (f0 : List Nat) (w : World) (hp : w.cell? ⟨pb, 0, none⟩ = some (.slice a0 s.syms.length c0)) (hv : RdVs w s.cd [.slice a0 s.syms.length c0] f0) (hx : Rd w (.sl (l.map Tm.cd)) v f) :
  Calls Tryd.prog 74 #[v, .func (.func 42) #[] #[.pointer (some ⟨pb, 0, none⟩)]] w fun e w' => (∃ n, e = .returned (.int .i64 n) ∧ FirstAt (fun t => !t.isNum s) l n) ∧ Below w.heap.size w w' := by
 obtain ⟨a, cap, rfl, hc1, hc2⟩ := zg hx
 have hpz : pb < w.heap.size := World.block_lt_of_cell? w _ hp
 go_enter Tryd.func74, Tryd.ntmps74
 go_wp2_with fail
 go_loopw [5, 8] (fun _ i wr => ∃ k : Nat, k ≤ l.length ∧ i = .int .i64 k ∧ Hid ((l.take k).all (fun t => !!t.isNum s) = true) ∧ Below w.heap.size w wr) (fun _ i _ => l.length - (intOf i).toNat)
 case atStart => exact ⟨0, Nat.zero_le _, rfl, Lib.hid (by simp), Below.refl _ _⟩
 case round =>
  obtain ⟨k, hkl, rfl, hall, hb⟩ := hrel
  have hz := hb.size
  by_cases hlt : k < l.length
  ·obtain ⟨b, off, rfl, hbs, _⟩ := zp hx (by omega)
   obtain ⟨e1, g1, h1, d0, d1, t0, t1, _⟩ := Tm.at (hx.below hb) hlt
   have hbz : b < wr.heap.size := by omega
   go_wp2_with fail
   refine (zbN s l[k] _ pb a0 c0 _ _ (za hp hb) (hv.below hb) (TmR.mk t0 ⟨h1, t1⟩)).mono ?_
   rintro e w2 ⟨rfl, hb2⟩
   cases he : l[k].isNum s
   ·have HE : Hid (FirstAt (fun t => !t.isNum s) l (k : Int)) := Lib.hid (.inr ⟨k, hlt, rfl, by simp [he], hall.out⟩)
    simp only [Bool.not_false]
    clear he
    go_wp2_with fail
    go_ret
    exact ⟨⟨k, rfl, HE.out⟩, hb.trans (hb2.mono hz)⟩
   ·have HE := Lib.hid (none_succ hlt hall.out (by simp [he]))
    simp only [Bool.not_true]
    clear he
    go_wp2_with fail
    go_roundw
    case rel => exact ⟨k + 1, by omega, by go_num, HE, hb.trans (hb2.mono hz)⟩
    case measure => simp [intOf]; omega
  ·have HE : Hid (FirstAt (fun t => !t.isNum s) l (-1)) := Lib.hid (.inl ⟨rfl, by have := hall.out; rwa [List.take_of_length_le (by omega)] at this⟩)
   go_wp2_with fail
   go_ret
   exact ⟨⟨-1, rfl, HE.out⟩, hb⟩
theorem FirstAt.neg {p : Tm → Bool} {l : List Tm} {n : Int} (h : FirstAt p l n) : (decide (0 ≤ n)) = !l.all (fun t => !p t) := by
 rcases h with ⟨rfl, h⟩ | ⟨k, hk, rfl, h, _⟩
 ·rw [h]; rfl
 ·have : l.all (fun t => !p t) = false := by rw [List.all_eq_false]; exact ⟨l[k], zcl hk, by simp [h]⟩
  rw [this]; simp
theorem zbd (s : Sg) (l : List Tm) (v : Value) (f : List Nat) (pb : Nat) (a0 : Option Addr) (c0 : Nat) (f0 : List Nat) (w : World) (hp : w.cell? ⟨pb, 0, none⟩ = some (.slice a0 s.syms.length c0)) (hv : RdVs w s.cd [.slice a0 s.syms.length c0] f0) (hx : Rd w (.sl (l.map Tm.cd)) v f) :
  Calls Tryd.prog 41 #[v, .func (.func 42) #[] #[.pointer (some ⟨pb, 0, none⟩)]] w fun e w' => e = .returned (.bool (!l.all (Tm.isNum s))) ∧ Below w.heap.size w w' := by
 obtain ⟨a, cap, rfl, hc1, hc2⟩ := zg hx
 go_enter Tryd.func41, Tryd.ntmps41
 go_wp2_with fail
 refine (zbc s l _ f pb a0 c0 f0 _ hp hv hx).mono ?_
 rintro e w2 ⟨⟨n, rfl, hn⟩, hb⟩
 have HF := Lib.hid hn.neg
 clear hn
 go_wp2_with fail
 go_ret
 exact ⟨retB (by rw [HF.out]; simp), hb⟩
def zY (s : Sg) (x : Atm) : Bool := s.okB && (x.okB && (if x.kind = 1 then Eqn.okB s ⟨x.a, x.b⟩ else x.nums.all (Tm.isNum s)))
theorem zbv {s : Sg} {x : Atm} (h : s.okB = false) : zY s x = false := by simp [zY, h]
theorem zbW {s : Sg} {x : Atm} (h : x.okB = false) : zY s x = false := by simp [zY, h]
theorem zbe {s : Sg} {x : Atm} (h : s.okB = true) (h' : x.okB = true) (k : x.kind = 1) : zY s x = Eqn.okB s ⟨x.a, x.b⟩ := by simp [zY, h, h', k]
theorem zaP {s : Sg} {x : Atm} (h : s.okB = true) (h' : x.okB = true) (k : ¬ x.kind = 1) : zY s x = x.nums.all (Tm.isNum s) := by simp [zY, h, h', k]
theorem zbO (s : Sg) (x : Atm) (us vs : List Value) (f f' : List Nat) (w : World) (hbig : x.small) (hv : RdVs w s.cd us f') (hx : RdVs w x.cd vs f) :
  Calls Tryd.prog 15 #[.agg us.toArray, .agg vs.toArray] w fun e w' => e = .returned (.bool (zY s x)) ∧ Below w.heap.size w w' := by
 obtain ⟨a0, c0, f0, rfl, _, n0⟩ := Sg.open hv
 obtain ⟨a2, c2, f2, a4, c4, f4, a5, c5, f5, a6, c6, f6, rfl, _, m0, m1, m2, m3, m4, m5, m6, m7⟩ := Atm.open hx
 go_enter Tryd.func15, Tryd.ntmps15
 go_wp2_with fail
 refine (zbo s _ _ _ (by exact hv.below ((zb _ _).alloc (by simp) _))).mono ?_
 rintro e w1 ⟨rfl, hb⟩
 obtain ⟨hs, hy, hz, hB⟩ := box2 (w := w) (wr := w1) (cs := #[.slice a0 s.syms.length c0]) (ds := #[.int .i64 x.kind, .string x.a.name, .slice a2 x.a.kids.length c2, .string x.b.name, .slice a4 x.b.kids.length c4, .slice a5 x.nums.length c5, .slice a6 x.times.length c6, .int .i64 x.bound, .bool x.strict]) (T := 40) (U := 28) (zu hb (by simp))
 clear hb
 have S0 := hs 0
 have C0 := hy 0
 have C1 := hy 1
 have C2 := hy 2
 have C3 := hy 3
 have C4 := hy 4
 have C5 := hy 5
 have C6 := hy 6
 have C7 := hy 7
 have C8 := hy 8
 simp only [zch, zcf, zcg] at S0 C0 C1 C2 C3 C4 C5 C6 C7 C8
 cases h1 : s.okB
 ·have HF := Lib.hid (zbv (x := x) h1)
  clear h1
  go_wp2_with fail
  go_ret
  exact ⟨retB HF.out.symm, hB⟩
 have H1 := Lib.hid h1
 clear h1
 go_wp2_with fail
 refine (zay x _ _ _ hbig (by exact hx.below hB)).mono ?_
 rintro e w2 ⟨rfl, hb2⟩
 have hB2 := hB.trans (hb2.mono hB.size)
 cases h2 : x.okB
 ·have HF := Lib.hid (zbW (s := s) h2)
  clear h2
  go_wp2_with fail
  go_ret
  exact ⟨retB HF.out.symm, hB2⟩
 have H2 := Lib.hid h2
 clear h2
 have S0' := za S0 hb2
 have C0' := za C0 hb2
 have C1' := za C1 hb2
 have C2' := za C2 hb2
 have C3' := za C3 hb2
 have C4' := za C4 hb2
 have C5' := za C5 hb2
 have C6' := za C6 hb2
 have C7' := za C7 hb2
 have C8' := za C8 hb2
 clear S0 C0 C1 C2 C3 C4 C5 C6 C7 C8 hs hy
 by_cases k1 : x.kind = 1
 ·have tk : (x.kind == 1) = true := by simp [k1]
  have HF := Lib.hid (zbe H1.out H2.out k1)
  clear k1
  go_wp2_with fail
  refine (zb6 s ⟨x.a, x.b⟩ _ _ _ _ _ (by exact (Eqn.close (x := ⟨x.a, x.b⟩) m1 m2 m3 m4).below hB2) (by exact hv.below hB2)).mono ?_
  rintro e w3 ⟨rfl, hb3⟩
  go_wp2_with fail
  go_ret
  exact ⟨retB HF.out.symm, hB2.trans (hb3.mono hB2.size)⟩
 ·have tk : (x.kind == 1) = false := by simp [k1]
  have HF := Lib.hid (zaP H1.out H2.out k1)
  clear k1
  go_wp2_with fail
  refine (zbd s x.nums _ _ w.heap.size a0 c0 _ _ S0' (hv.below hB2) (m5.below hB2)).mono ?_
  rintro e w3 ⟨rfl, hb3⟩
  go_wp2_with fail
  go_ret
  exact ⟨retB (by rw [HF.out]; try simp), hB2.trans (hb3.mono hB2.size)⟩
theorem Tm.tsrt_of {s : Sg} (h : s.okB = true) {t : Tm} (h' : t.wf = true) : t.tsrt s = t.srt s := Tm.tsrt_yes h h'
theorem zaQ (s : Sg) (x : Atm) (us vs : List Value) (f f' : List Nat) (w : World) (hbig : x.small) (hv : RdVs w s.cd us f') (hx : RdVs w x.cd vs f) :
  Calls Tryd.prog 16 #[.agg us.toArray, .agg vs.toArray] w fun e w' => e = .returned (.bool (zY s x)) ∧ Below w.heap.size w w' := by
 obtain ⟨a0, c0, f0, rfl, _, n0⟩ := Sg.open hv
 obtain ⟨a2, c2, f2, a4, c4, f4, a5, c5, f5, a6, c6, f6, rfl, _, m0, m1, m2, m3, m4, m5, m6, m7⟩ := Atm.open hx
 go_enter Tryd.func16, Tryd.ntmps16
 go_wp2_with fail
 refine (zb2 s _ _ _ (by exact hv.below ((zb _ _).alloc (by simp) _))).mono ?_
 rintro e w1 ⟨rfl, hb⟩
 obtain ⟨hs, hy, hz, hB⟩ := box2 (w := w) (wr := w1) (cs := #[.slice a0 s.syms.length c0]) (ds := #[.int .i64 x.kind, .string x.a.name, .slice a2 x.a.kids.length c2, .string x.b.name, .slice a4 x.b.kids.length c4, .slice a5 x.nums.length c5, .slice a6 x.times.length c6, .int .i64 x.bound, .bool x.strict]) (T := 40) (U := 28) (zu hb (by simp))
 clear hb
 have S0 := hs 0
 have C0 := hy 0
 have C1 := hy 1
 have C2 := hy 2
 have C3 := hy 3
 have C4 := hy 4
 have C5 := hy 5
 have C6 := hy 6
 have C7 := hy 7
 have C8 := hy 8
 simp only [zch, zcf, zcg] at S0 C0 C1 C2 C3 C4 C5 C6 C7 C8
 cases h1 : s.okB
 ·have HF := Lib.hid (zbv (x := x) h1)
  clear h1
  go_wp2_with fail
  go_ret
  exact ⟨retB HF.out.symm, hB⟩
 have H1 := Lib.hid h1
 clear h1
 go_wp2_with fail
 refine (zbM x _ _ _ hbig (by exact hx.below hB)).mono ?_
 rintro e w2 ⟨rfl, hb2⟩
 have hB2 := hB.trans (hb2.mono hB.size)
 cases h2 : x.okB
 ·have HF := Lib.hid (zbW (s := s) h2)
  clear h2
  go_wp2_with fail
  go_ret
  exact ⟨retB HF.out.symm, hB2⟩
 have H2 := Lib.hid h2
 clear h2
 have HWF := Lib.hid (fun t ht => Tm.tsrt_of H1.out (Atm.tms_wf H2.out t ht))
 have HPOS := Lib.hid (fun (t : Tm) (m : Int) (hm : t.srt s = some m) => Tm.srt_pos H1.out hm)
 have S0' := za S0 hb2
 have C0' := za C0 hb2
 have C1' := za C1 hb2
 have C2' := za C2 hb2
 have C3' := za C3 hb2
 have C4' := za C4 hb2
 have C5' := za C5 hb2
 have C6' := za C6 hb2
 have C7' := za C7 hb2
 have C8' := za C8 hb2
 clear S0 C0 C1 C2 C3 C4 C5 C6 C7 C8 hs hy
 by_cases k1 : x.kind = 1
 ·have tk : (x.kind == 1) = true := by simp [k1]
  have HF := Lib.hid (zbe H1.out H2.out k1)
  have HA : Hid (x.a.tsrt s = x.a.srt s) := Lib.hid (HWF.out x.a (by rw [Atm.tms_eq k1]; simp))
  have HBB : Hid (x.b.tsrt s = x.b.srt s) := Lib.hid (HWF.out x.b (by rw [Atm.tms_eq k1]; simp))
  clear k1
  go_wp2_with fail
  refine (zaG s H1 x.a.size x.a _ _ _ _ _ (Nat.le_refl _) (by exact hv.below hB2) (by exact (Tm.rdv m1 m2).below hB2)).mono ?_
  rintro e w3 ⟨rfl, hb3⟩
  have hB3 := hB2.trans (hb3.mono hB2.size)
  have S3 := za S0' hb3
  have E3 := za C3' hb3
  have E4 := za C4' hb3
  cases ho : x.a.srt s with
  | none =>
   have HG : Hid (zY s x = false) := Lib.hid (by rw [HF.out]; exact Eqn.okB_a (HA.out.trans ho))
   clear ho
   simp only [Option.getD_none]
   go_wp2_with fail
   go_ret
   exact ⟨retB HG.out.symm, hB3⟩
  | some m =>
   have hm0 := HPOS.out _ _ ho
   have HO := Lib.hid (HA.out.trans ho)
   have tm : decide ((0 : Int) ≤ m) = true := by simp; try omega
   clear ho
   simp only [Option.getD_some]
   go_wp2_with fail
   refine (zaG s H1 x.b.size x.b _ _ _ _ _ (Nat.le_refl _) (by exact hv.below hB3) (by exact (Tm.rdv m3 m4).below hB3)).mono ?_
   rintro e w4 ⟨rfl, hb4⟩
   have hB4 := hB3.trans (hb4.mono hB3.size)
   cases hq : x.b.srt s with
   | none =>
    have HG : Hid (zY s x = false) := Lib.hid (by rw [HF.out]; exact Eqn.okB_b (HBB.out.trans hq))
    have tq : (m == -1) = false := by simp; omega
    clear hq
    simp only [Option.getD_none]
    go_wp2_with fail
    go_ret
    exact ⟨retB (by rw [HG.out]; try exact tq), hB4⟩
   | some n =>
    have HG := Lib.hid (HF.out.trans (Eqn.okB_ab (e := ⟨x.a, x.b⟩) HO.out (HBB.out.trans hq)))
    clear hq
    simp only [Option.getD_some]
    go_wp2_with fail
    go_ret
    exact ⟨retB HG.out.symm, hB4⟩
 ·have tk : (x.kind == 1) = false := by simp [k1]
  have HF := Lib.hid (zaP H1.out H2.out k1)
  have HN := Lib.hid (fun t (ht : t ∈ x.nums) => HWF.out t (by rw [Atm.tms_sum k1]; exact ht))
  clear k1
  have hlen := zT m5
  go_wp2_with fail
  go_loopw [6] (fun i wq => ∃ k : Nat, k ≤ x.nums.length ∧ i = .int .i64 k ∧ Hid ((x.nums.take k).all (Tm.isNum s) = true) ∧ Below w2.heap.size w2 wq) (fun i _ => x.nums.length - (intOf i).toNat)
  case atStart => exact ⟨0, Nat.zero_le _, rfl, Lib.hid (by simp), Below.refl _ _⟩
  case round =>
   obtain ⟨k, hkl, rfl, hall, hb⟩ := hrel
   have hBr := hB2.trans (hb.mono hB2.size)
   have S4 := za S0' hb
   have D5r := za C5' hb
   by_cases hlt : k < x.nums.length
   ·obtain ⟨b, off, rfl, hbs, _⟩ := zp m5 (by omega)
    obtain ⟨e1, g1, h1, d0, d1, t0, t1, _⟩ := Tm.at (m5.below hBr) hlt
    have hbz : b < wr.heap.size := by have := hBr.size; omega
    have hvr := hv.below hBr
    have htr := Tm.rdv t0 t1
    have HT := Lib.hid (HN.out _ (zcl hlt))
    go_wp2_with fail
    have q0 := cell_regrown S4
    have q1 := cell_regrown D5r
    have q2 := cell_regrown d0
    have q3 := cell_regrown d1
    cases hq : x.nums[k].srt s with
    | none =>
     have HG : Hid (zY s x = false) := Lib.hid (by rw [HF.out, List.all_eq_false]; exact ⟨x.nums[k], zcl hlt, by rw [Tm.isNum_none (HT.out.trans hq)]; simp⟩)
     have HL := Lib.hid (fun W (hW : Below wr.heap.size wr W) => (zaG s H1 x.nums[k].size x.nums[k] _ _ _ _ W (Nat.le_refl _) (hvr.below hW) (htr.below hW)))
     rw [hq] at HL
     have tq : ((-1 : Int) != 1) = true := rfl
     clear hq
     refine wp_region_quiet_below (by kernel_rfl) (by kernel_rfl) ?_
     repeat (first | go_big_quiet_skip | quiet_step ((go_at_call 45; refine Calls.regrown_of ((HL.out _ (below_regrown _ _ _)).mono (fun e w' h => h)))))
     refine wpQuiet_nil ?_
     intro w9 hw9
     obtain ⟨⟨dq, osq⟩, hw9⟩ := hw9
     have hb9 : Below wr.heap.size wr w9 := hw9 ▸ below_regrown wr dq osq
     clear hw9 q0 q1 q2 q3
     go_wp2_with fail
     go_ret
     exact ⟨retB HG.out.symm, hBr.trans (hb9.mono hBr.size)⟩
    | some n =>
     have HNN := Lib.hid (Tm.isNum_some (HT.out.trans hq))
     have HL := Lib.hid (fun W (hW : Below wr.heap.size wr W) => (zaG s H1 x.nums[k].size x.nums[k] _ _ _ _ W (Nat.le_refl _) (hvr.below hW) (htr.below hW)))
     rw [hq] at HL
     clear hq
     cases hn : (n == 1)
     ·have HG : Hid (zY s x = false) := Lib.hid (by rw [HF.out, List.all_eq_false]; exact ⟨x.nums[k], zcl hlt, by rw [HNN.out, hn]; simp⟩)
      have tq : (n != 1) = true := by rw [bne, hn]; rfl
      refine wp_region_quiet_below (by kernel_rfl) (by kernel_rfl) ?_
      repeat (first | go_big_quiet_skip | quiet_step ((go_at_call 45; refine Calls.regrown_of ((HL.out _ (below_regrown _ _ _)).mono (fun e w' h => h)))))
      refine wpQuiet_nil ?_
      intro w9 hw9
      obtain ⟨⟨dq, osq⟩, hw9⟩ := hw9
      have hb9 : Below wr.heap.size wr w9 := hw9 ▸ below_regrown wr dq osq
      clear hw9 q0 q1 q2 q3
      go_wp2_with fail
      go_ret
      exact ⟨retB HG.out.symm, hBr.trans (hb9.mono hBr.size)⟩
     ·have HS : Hid ((x.nums.take (k + 1)).all (Tm.isNum s) = true) := Lib.hid (by rw [zcj hlt, List.all_append, hall.out]; simp [HNN.out, hn])
      have tq : (n != 1) = false := by rw [bne, hn]; rfl
      refine wp_region_quiet_below (by kernel_rfl) (by kernel_rfl) ?_
      repeat (first | go_big_quiet_skip | quiet_step ((go_at_call 45; refine Calls.regrown_of ((HL.out _ (below_regrown _ _ _)).mono (fun e w' h => h)))))
      refine wpQuiet_nil ?_
      intro w9 hw9
      obtain ⟨⟨dq, osq⟩, hw9⟩ := hw9
      have hb9 : Below wr.heap.size wr w9 := hw9 ▸ below_regrown wr dq osq
      clear hw9 q0 q1 q2 q3
      go_wp2_with fail
      go_roundw
      case rel => exact ⟨k + 1, by omega, by go_num, HS, hb.trans (hb9.mono hb.size)⟩
      case measure => simp [intOf]; omega
   ·have HG : Hid (zY s x = true) := Lib.hid (by have h := hall.out; rw [List.take_of_length_le (by omega)] at h; rw [HF.out, h])
    go_wp2_with fail
    go_ret
    exact ⟨retB HG.out.symm, hBr⟩
end Go.Proofs.YtoehhbkhdddeeaaDoor
end
