/- Parts of the proof: SameLib Sig SameA SameB. -/
import Derived.Test.YtbfinjiledfpcaaPa8
import Derived.Deep.QuietTactic
import Derived.BigQuiet
import Derived.Lib.QuietBelow
section
namespace Go.Proofs.Ytbfinjiledfpcaa
open Go Go.RowKit
set_option linter.unusedVariables false
set_option linter.unusedSimpArgs false
set_option maxRecDepth 100000
set_option maxHeartbeats 16000000
mutual
def eqC : CD → CD → Bool
 | .int a, .int b => decide (a = b)
 | .str a, .str b => decide (a = b)
 | .bool a, .bool b => decide (a = b)
 | .sl a, .sl b => eqR a b
 | _, _ => false
def eqR : List (List CD) → List (List CD) → Bool
 | [], [] => true
 | a :: l, b :: l2 => eqV a b && eqR l l2
 | _, _ => false
def eqV : List CD → List CD → Bool
 | [], [] => true
 | a :: l, b :: l2 => eqC a b && eqV l l2
 | _, _ => false
end
mutual
theorem eqC_iff : ∀ (a b : CD), eqC a b = true ↔ a = b
 | .int a, b => by cases b <;> simp [eqC]
 | .str a, b => by cases b <;> simp [eqC]
 | .bool a, b => by cases b <;> simp [eqC]
 | .sl a, b => by cases b <;> simp [eqC, zbP a]
theorem zbP : ∀ (a b : List (List CD)), eqR a b = true ↔ a = b
 | [], b => by cases b <;> simp [eqR]
 | a :: l, b => by cases b <;> simp [eqR, zaz a, zbP l]
theorem zaz : ∀ (a b : List CD), eqV a b = true ↔ a = b
 | [], b => by cases b <;> simp [eqV]
 | a :: l, b => by cases b <;> simp [eqV, eqC_iff a, zaz l]
end
theorem zcH (a : List CD) : eqV a a = true := (zaz _ _).2 rfl
theorem eqV_no {a b : List CD} (h : a ≠ b) : eqV a b = false := by rw [Bool.eq_false_iff]; intro h'; exact h ((zaz _ _).1 h')
theorem eqR_no {a b : List (List CD)} (h : a ≠ b) : eqR a b = false := by rw [Bool.eq_false_iff]; intro h'; exact h ((zbP _ _).1 h')
theorem eqV_ne {a b : List CD} (h : eqV a b = false) : a ≠ b := by rintro rfl; rw [zcH] at h; simp at h
theorem zbQ {α : Type} {cd : α → List CD} {xs ys : List α} (h : xs.length ≠ ys.length) : eqR (xs.map cd) (ys.map cd) = false := eqR_no fun e => h (by have := congrArg List.length e; simpa using this)
/-- All up to a place alike. -/
def Alike {α : Type} (cd : α → List CD) (xs ys : List α) (k : Nat) : Prop := (xs.take k).map cd = (ys.take k).map cd
theorem Alike.zero {α : Type} {cd : α → List CD} {xs ys : List α} : Alike cd xs ys 0 := by simp [Alike]
theorem Alike.succ {α : Type} {cd : α → List CD} {xs ys : List α} {k : Nat} (h : Alike cd xs ys k) (h1 : k < xs.length) (h2 : k < ys.length) (he : eqV (cd xs[k]) (cd ys[k]) = true) : Alike cd xs ys (k + 1) := by
 unfold Alike at *; rw [zdz h1, zdz h2, zdD, zdD, h, List.map_singleton, List.map_singleton, (zaz _ _).1 he]
theorem Alike.all {α : Type} {cd : α → List CD} {xs ys : List α} {k : Nat} (h : Alike cd xs ys k) (h1 : xs.length ≤ k) (h2 : ys.length ≤ k) : eqR (xs.map cd) (ys.map cd) = true := by
 unfold Alike at h; rw [zdK h1, zdK h2] at h; exact (zbP _ _).2 h
theorem za0 {α : Type} {cd : α → List CD} {xs ys : List α} {k : Nat} (h1 : k < xs.length) (h2 : k < ys.length) (he : eqV (cd xs[k]) (cd ys[k]) = false) : eqR (xs.map cd) (ys.map cd) = false := eqR_no fun e => by
 have : (xs.map cd)[k]? = (ys.map cd)[k]? := by rw [e]
 simp [h1, h2] at this; exact eqV_ne he this
theorem zaA {a a' b b' : List CD} (h : a.length = a'.length) : eqV (a ++ b) (a' ++ b') = (eqV a a' && eqV b b') := by
 rw [Bool.eq_iff_iff, zdG, zaz, zaz, zaz]; exact ⟨fun e => List.append_inj e h, fun ⟨e, e'⟩ => by rw [e, e']⟩
theorem zcl (a b : Int) : eqV [.int a] [.int b] = decide (a = b) := by simp [eqV, eqC]
theorem eqV_str (a b : ByteArray) : eqV [.str a] [.str b] = decide (a = b) := by simp [eqV, eqC]
theorem zcI (a b : Bool) : eqV [.bool a] [.bool b] = decide (a = b) := by simp [eqV, eqC]
theorem eqV_sl (a b : List (List CD)) : eqV [.sl a] [.sl b] = eqR a b := by simp [eqV, eqC]
theorem zb {w1 w2 : World} {b j : Nat} {v : Value} (h : w1.cell? ⟨b, j, none⟩ = some v) (hb : Below w1.heap.size w1 w2) : w2.cell? ⟨b, j, none⟩ = some v := (hb.cell (p := ⟨b, j, none⟩) (World.block_lt_of_cell? w1 _ h)).trans h
theorem zaG {w : World} {α : Type} {cd : α → List CD} {xs : List α} {v : Value} {f : List Nat} (h : Rd w (.sl (xs.map cd)) v f) : xs.length ≤ 9223372036854775807 := by obtain ⟨a, c, _, h1, h2⟩ := zc h; omega
theorem int_beq (a b : Int) : (a == b) = decide (a = b) := rfl
theorem Tm.cd_mk (n : ByteArray) (ks : List Tm) : (Tm.mk n ks).cd = [.str n, .sl (ks.map Tm.cd)] := by rw [Tm.cd_eq]; rfl
mutual
theorem Tm.beq_cd : ∀ t u : Tm, t.beq u = eqV t.cd u.cd
 | .mk n ks, .mk m js => by
  rw [Tm.cd_mk, Tm.cd_mk]; simp only [Tm.beq, eqV, eqC, Bool.and_true]; rw [Tm.beqs_cd ks js]
theorem Tm.beqs_cd : ∀ ts us : List Tm, Tm.beqs ts us = eqR (ts.map Tm.cd) (us.map Tm.cd)
 | [], [] => by simp [Tm.beqs, eqR]
 | [], _ :: _ => by simp [Tm.beqs, eqR]
 | _ :: _, [] => by simp [Tm.beqs, eqR]
 | t :: ts, u :: us => by
  simp only [Tm.beqs, List.map_cons, eqR]; rw [Tm.beq_cd t u, Tm.beqs_cd ts us]
end
def srtB (n : Int) : Bool := n == 0 || n == 1
def Sy.okB (x : Sy) : Bool := zao x.name && (decide (x.args.length ≤ 2) && (srtB x.sort && x.args.all srtB))
def nmLt (a b : ByteArray) : Bool := Op.bytesLess a.toList b.toList
def Sg.okAt (s : Sg) (k : Nat) : Bool :=
 match s.Y[k]? with
 | none => true
 | some x => x.okB && (match k with | 0 => true | j + 1 => (match s.Y[j]? with | none => true | some y => nmLt y.name x.name))
def Sg.okB (s : Sg) : Bool := (List.range s.Y.length).all s.okAt && decide (s.Y.length ≤ 7)
theorem Sg.okB_no {s : Sg} {k : Nat} (hk : k < s.Y.length) (h : s.okAt k = false) : s.okB = false := by
 have : (List.range s.Y.length).all s.okAt = false := by rw [List.all_eq_false]; exact ⟨k, by simpa using hk, by simp [h]⟩
 simp [Sg.okB, this]
theorem Sg.okB_all {s : Sg} {k : Nat} (hk : s.Y.length ≤ k) (h : ∀ j, j < k → s.okAt j = true) : s.okB = decide (s.Y.length ≤ 7) := by
 have : (List.range s.Y.length).all s.okAt = true := by rw [List.all_eq_true]; intro j hj; exact h j (by have := List.mem_range.1 hj; omega)
 simp [Sg.okB, this]
theorem Sg.okAt_bad {s : Sg} {k : Nat} (hk : k < s.Y.length) (h : s.Y[k].okB = false) : s.okAt k = false := by simp [Sg.okAt, zdJ hk, h]
theorem Sg.okAt_zero {s : Sg} (hk : 0 < s.Y.length) (h : s.Y[0].okB = true) : s.okAt 0 = true := by simp [Sg.okAt, zdJ hk, h]
theorem Sg.okAt_succ {s : Sg} {k : Nat} (hk : k + 1 < s.Y.length) (h : s.Y[k + 1].okB = true) : s.okAt (k + 1) = nmLt s.Y[k].name s.Y[k + 1].name := by
 simp [Sg.okAt, zdJ hk, zdJ (show k < s.Y.length by omega), h]
theorem zZ (n : Int) (w : World) : Calls Try.prog 84 #[.int .i64 n] w fun e w' => e = .returned (.bool (srtB n)) ∧ w = w' := by
 cases h0 : (n == 0) <;> cases h1 : (n == 1)
 all_goals
  have HF : Hid (srtB n = ((n == 0) || (n == 1))) := zdH rfl; go_enter Try.func84, Try.ntmps84
  go_wp2
  go_ret; exact ⟨retB (by rw [HF.out, h0, h1]; rfl), rfl⟩
theorem zbC {p : Int → Bool} {xs : List Int} {k : Nat} (hk : k < xs.length) (h : (xs.take k).all p = true) (h' : p xs[k] = true) : (xs.take (k + 1)).all p = true := by
 rw [zdz hk, List.all_append, h]; simp [h']
theorem zb0 {p : Int → Bool} {xs : List Int} {k : Nat} (hk : k < xs.length) (h' : p xs[k] = false) : xs.all p = false := by
 rw [List.all_eq_false]; exact ⟨xs[k], zdB hk, by simp [h']⟩
theorem Atm.eqv (x y : Atm) : eqV x.cd y.cd = ((x.kind == y.kind) && (eqV x.a.cd y.a.cd && (eqV x.b.cd y.b.cd && (eqR (x.N.map Tm.cd) (y.N.map Tm.cd) && (eqR (x.T.map zm) (y.T.map zm) && ((x.O == y.O) && (x.C == y.C))))))) := by
 unfold Atm.cd; rw [zaA (by simp)]; rw [zaA (by simp [Tm.cd_len])]; rw [zaA (by simp [Tm.cd_len])]; rw [zaA (by simp)]; rw [zaA (by simp)]; rw [zaA (by simp)]; simp only [zcl, eqV_str, zcI, eqV_sl, ← Bool.beq_eq_decide_eq, ← int_beq]
theorem Atm.eqv_kind {x y : Atm} (h : (x.kind == y.kind) = false) : eqV x.cd y.cd = false := by rw [Atm.eqv]; simp [h]
theorem Atm.eqv_a {x y : Atm} (h : eqV x.a.cd y.a.cd = false) : eqV x.cd y.cd = false := by rw [Atm.eqv]; simp [h]
theorem Atm.eqv_b {x y : Atm} (h : eqV x.b.cd y.b.cd = false) : eqV x.cd y.cd = false := by rw [Atm.eqv]; simp [h]
theorem Atm.eqv_nums {x y : Atm} (h : eqR (x.N.map Tm.cd) (y.N.map Tm.cd) = false) : eqV x.cd y.cd = false := by rw [Atm.eqv]; simp [h]
theorem Atm.eqv_times {x y : Atm} (h : eqR (x.T.map zm) (y.T.map zm) = false) : eqV x.cd y.cd = false := by rw [Atm.eqv]; simp [h]
theorem Atm.eqv_bound {x y : Atm} (h : (x.O == y.O) = false) : eqV x.cd y.cd = false := by rw [Atm.eqv]; simp [h]
theorem Atm.eqv_strict {x y : Atm} (h : (x.C == y.C) = false) : eqV x.cd y.cd = false := by rw [Atm.eqv]; simp [h]
theorem Fm.eqv (x y : Fm) : eqV x.cd y.cd = ((x.kind == y.kind) && (eqV x.L.M.cd y.L.M.cd && ((x.L.no == y.L.no) && eqR (x.K.map Fm.cd) (y.K.map Fm.cd)))) := by
 rw [Fm.cd_eq x, Fm.cd_eq y]; simp only [Lt.cd, List.append_assoc]; rw [zaA (by simp)]; rw [zaA (by simp [Atm.cd_len])]; rw [zaA (by simp)]; simp only [zcl, eqV_str, zcI, eqV_sl, ← Bool.beq_eq_decide_eq, ← int_beq]
theorem Fm.eqv_kind {x y : Fm} (h : (x.kind == y.kind) = false) : eqV x.cd y.cd = false := by rw [Fm.eqv]; simp [h]
theorem Fm.eqv_lit_atom {x y : Fm} (h : eqV x.L.M.cd y.L.M.cd = false) : eqV x.cd y.cd = false := by rw [Fm.eqv]; simp [h]
theorem Fm.eqv_lit_no {x y : Fm} (h : (x.L.no == y.L.no) = false) : eqV x.cd y.cd = false := by rw [Fm.eqv]; simp [h]
theorem Fm.eqv_kids {x y : Fm} (h : eqR (x.K.map Fm.cd) (y.K.map Fm.cd) = false) : eqV x.cd y.cd = false := by rw [Fm.eqv]; simp [h]
theorem zct (xs ys : List Int) (v u : Value) (f f' : List Nat) (w : World) (hv : Rd w (.sl (xs.map zm)) v f) (hx : Rd w (.sl (ys.map zm)) u f') :
  Calls Try.prog 39 #[v, u] w fun e w' => e = .returned (.bool (eqR (xs.map zm) (ys.map zm))) ∧ Below w.heap.size w w' := by
 obtain ⟨a, c, rfl, hc1, hc2⟩ := zc hv; obtain ⟨a', c', rfl, hc1', hc2'⟩ := zc hx
 by_cases hl : xs.length = ys.length
 ·have hlb : ((xs.length : Int) != (ys.length : Int)) = false := by rw [hl]; simp
  have hl1 : xs.length ≤ ys.length := by omega
  have hl2 : ys.length ≤ xs.length := by omega
  clear hl; go_enter Try.func39, Try.ntmps39; go_wp2_with fail
  go_loopw [13] (fun i wr => ∃ k : Nat, k ≤ xs.length ∧ i = .int .i64 k ∧ Hid (Alike zm xs ys k) ∧ Below w.heap.size w wr) (fun i _ => xs.length - (intOf i).toNat)
  case atStart => exact ⟨0, zdR _, rfl, zdH Alike.zero, zdT _ _⟩
  case round =>
   obtain ⟨k, hkl, rfl, hall, hb⟩ := hrel; have hz := hb.size
   by_cases hlt : k < xs.length
   ·obtain ⟨b, off, rfl, hbs, _⟩ := zo hv (by omega)
    obtain ⟨b', off', rfl, hbs', _⟩ := zo hx (by omega)
    have hlt' : k < ys.length := by omega
    obtain ⟨d0, _⟩ := zS (hv.below hb) hlt; obtain ⟨d0', _⟩ := zS (hx.below hb) hlt'
    by_cases he : xs[k] = ys[k]
    ·have HE : Hid (eqV (zm xs[k]) (zm ys[k]) = true) := by rw [he]; exact zcH _
     have hne : (xs[k] != ys[k]) = false := by rw [he]; simp
     clear he; go_wp2_with fail; have q0 := cell_regrown d0; have q0' := cell_regrown d0'; refine wp_region_quiet_below (by kernel_rfl) (by kernel_rfl) ?_
     repeat (quiet_step (fail))
     refine wpQuiet_nil ?_; intro w2 hw2; obtain ⟨⟨dq, osq⟩, hw2⟩ := hw2; have hb2 : Below wr.heap.size wr w2 := hw2 ▸ below_regrown wr dq osq; clear hw2 q0 q0'; go_wp2_with fail; go_roundw
     case rel => exact ⟨k + 1, by omega, by go_num, hall.out.succ hlt hlt' HE.out, hb.trans (hb2.mono (by omega))⟩
     case measure => simp [intOf]; omega
    ·have HE : Hid (eqV (zm xs[k]) (zm ys[k]) = false) := zdH (eqV_no (by simpa [zm] using he))
     have hne : (xs[k] != ys[k]) = true := by rw [bne_iff_ne]; exact he
     go_wp2_with fail; have q0 := cell_regrown d0; have q0' := cell_regrown d0'; refine wp_region_quiet_below (by kernel_rfl) (by kernel_rfl) ?_
     repeat (quiet_step (fail))
     refine wpQuiet_nil ?_; intro w2 hw2; obtain ⟨⟨dq, osq⟩, hw2⟩ := hw2; have hb2 : Below wr.heap.size wr w2 := hw2 ▸ below_regrown wr dq osq; clear hw2 q0 q0'; go_wp2_with fail; go_ret; exact ⟨retB (za0 hlt hlt' HE.out).symm, hb.trans (hb2.mono (by omega))⟩
   ·go_wp2_with fail
    go_ret; exact ⟨retB (hall.out.all (by omega) (by omega)).symm, hb⟩
 ·have hlb : ((xs.length : Int) != (ys.length : Int)) = true := by rw [bne_iff_ne]; omega
  have HF := zdH (zbQ (cd := zm) hl); clear hl; go_enter Try.func39, Try.ntmps39; go_wp2_with fail; go_ret; exact ⟨retB HF.out.symm, zdT _ _⟩
theorem equalFm_f (xs ys : List Fm) (hq : ∀ x ∈ xs, ∀ (y : Fm) (vs us : List Value) (f f' : List Nat) (w : World), RdVs w x.cd vs f → RdVs w y.cd us f' → Calls Try.prog 8 #[.agg vs.toArray, .agg us.toArray] w fun e w' => e = .returned (.bool (eqV x.cd y.cd)) ∧ Below w.heap.size w w')
  (v u : Value) (f f' : List Nat) (w : World) (hv : Rd w (.sl (xs.map Fm.cd)) v f) (hx : Rd w (.sl (ys.map Fm.cd)) u f') :
  Calls Try.prog 21 #[v, u, .func (.func 8) #[] #[]] w fun e w' => e = .returned (.bool (eqR (xs.map Fm.cd) (ys.map Fm.cd))) ∧ Below w.heap.size w w' := by
 obtain ⟨a, c, rfl, hc1, hc2⟩ := zc hv; obtain ⟨a', c', rfl, hc1', hc2'⟩ := zc hx; have HQ := zdH hq; clear hq
 by_cases hl : xs.length = ys.length
 ·have hlb : ((xs.length : Int) != (ys.length : Int)) = false := by rw [hl]; simp
  have hl1 : xs.length ≤ ys.length := by omega
  have hl2 : ys.length ≤ xs.length := by omega
  clear hl; go_enter Try.func21, Try.ntmps21; go_wp2_with fail
  go_loopw [17] (fun i wr => ∃ k : Nat, k ≤ xs.length ∧ i = .int .i64 k ∧ Hid (Alike Fm.cd xs ys k) ∧ Below w.heap.size w wr) (fun i _ => xs.length - (intOf i).toNat)
  case atStart => exact ⟨0, zdR _, rfl, zdH Alike.zero, zdT _ _⟩
  case round =>
   obtain ⟨k, hkl, rfl, hall, hb⟩ := hrel; have hz := hb.size
   by_cases hlt : k < xs.length
   ·obtain ⟨b, off, rfl, hbs, _⟩ := zo hv (by omega)
    obtain ⟨b', off', rfl, hbs', _⟩ := zo hx (by omega)
    have hlt' : k < ys.length := by omega
    obtain ⟨a3, c3, f3, a5, c5, f5, a6, c6, f6, a7, c7, f7, a11, c11, f11, d0, d1, d2, d3, d4, d5, d6, d7, d8, d9, d10, d11, m0, m1, m2, m3, m4, m5, m6, m7, m8, m9, _⟩ := Fm.at (hv.below hb) hlt; obtain ⟨a3', c3', f3', a5', c5', f5', a6', c6', f6', a7', c7', f7', a11', c11', f11', d0', d1', d2', d3', d4', d5', d6', d7', d8', d9', d10', d11', m0', m1', m2', m3', m4', m5', m6', m7', m8', m9', _⟩ := Fm.at (hx.below hb) hlt'
    have hbz : b' < wr.heap.size := by omega
    go_wp2_with fail; refine (HQ.out xs[k] (zdB hlt) ys[k] _ _ _ _ _ (by exact (Fm.close m0 m1 m2 m3 m4 m5 m6 m7 m8 m9).below (((zdT _ _).alloc (zdI _) _).alloc (by simp) _)) (by exact (Fm.close m0' m1' m2' m3' m4' m5' m6' m7' m8' m9').below (((zdT _ _).alloc (zdI _) _).alloc (by simp) _))).mono ?_; rintro e w2 ⟨rfl, hb2⟩
    have hb3 : Below wr.heap.size wr w2 := ((((zdT _ _).alloc (zdI _) _).alloc (by simp) _)).trans (hb2.mono (by simp; try omega))
    clear hb2
    cases he : eqV (xs[k].cd) (ys[k].cd)
    ·have HE := zdH he
     clear he; go_wp2_with fail; go_ret; exact ⟨retB (za0 hlt hlt' HE.out).symm, hb.trans (hb3.mono (by omega))⟩
    ·have HE := zdH he
     clear he; go_wp2_with fail; go_roundw
     case rel => exact ⟨k + 1, by omega, by go_num, hall.out.succ hlt hlt' HE.out, hb.trans (hb3.mono (by omega))⟩
     case measure => simp [intOf]; omega
   ·go_wp2_with fail
    go_ret; exact ⟨retB (hall.out.all (by omega) (by omega)).symm, hb⟩
 ·have hlb : ((xs.length : Int) != (ys.length : Int)) = true := by rw [bne_iff_ne]; omega
  have HF := zdH (zbQ (cd := Fm.cd) hl); clear hl; go_enter Try.func21, Try.ntmps21; go_wp2_with fail; go_ret; exact ⟨retB HF.out.symm, zdT _ _⟩
end Go.Proofs.Ytbfinjiledfpcaa
end
