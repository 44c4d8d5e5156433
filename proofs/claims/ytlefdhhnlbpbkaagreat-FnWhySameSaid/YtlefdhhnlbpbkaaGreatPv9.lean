/- Parts of the proof: SameLib Sig SameA SameB SameC SameD. -/
import Derived.Test.YtlefdhhnlbpbkaaGreatPv8
import Derived.Deep.QuietTactic
import Derived.BigQuiet
import Derived.Lib.QuietBelow
section
namespace Go.Proofs.YtlefdhhnlbpbkaaGreat
open Go Go.RowKit
set_option linter.unusedVariables false
set_option linter.unusedSimpArgs false
set_option maxRecDepth 100000
set_option maxHeartbeats 16000000
mutual
def eqC : CD → CD → Bool
 | .int a, .int b => decide (a = b)
 | .str a, .str b => decide (a = b)
 | .bool a, .bool b => decide (a = b)
 | .sl a, .sl b => eqR a b
 | _, _ => false
def eqR : List (List CD) → List (List CD) → Bool
 | [], [] => true
 | a :: l, b :: l2 => eqV a b && eqR l l2
 | _, _ => false
def eqV : List CD → List CD → Bool
 | [], [] => true
 | a :: l, b :: l2 => eqC a b && eqV l l2
 | _, _ => false
end
mutual
theorem eqC_iff : ∀ (a b : CD), eqC a b = true ↔ a = b
 | .int a, b => by cases b <;> simp [eqC]
 | .str a, b => by cases b <;> simp [eqC]
 | .bool a, b => by cases b <;> simp [eqC]
 | .sl a, b => by cases b <;> simp [eqC, zcr a]
theorem zcr : ∀ (a b : List (List CD)), eqR a b = true ↔ a = b
 | [], b => by cases b <;> simp [eqR]
 | a :: l, b => by cases b <;> simp [eqR, zab a, zcr l]
theorem zab : ∀ (a b : List CD), eqV a b = true ↔ a = b
 | [], b => by cases b <;> simp [eqV]
 | a :: l, b => by cases b <;> simp [eqV, eqC_iff a, zab l]
end
theorem eqV_self (a : List CD) : eqV a a = true := (zab _ _).2 rfl
theorem eqR_no {a b : List (List CD)} (h : a ≠ b) : eqR a b = false := by rw [Bool.eq_false_iff]; intro h'; exact h ((zcr _ _).1 h')
theorem eqV_ne {a b : List CD} (h : eqV a b = false) : a ≠ b := by rintro rfl; rw [eqV_self] at h; simp at h
theorem eqR_len {α : Type} {cd : α → List CD} {xs ys : List α} (h : xs.length ≠ ys.length) : eqR (xs.map cd) (ys.map cd) = false := eqR_no fun e => h (by have := congrArg List.length e; simpa using this)
/-- All up to a place alike. -/
def Alike {α : Type} (cd : α → List CD) (xs ys : List α) (k : Nat) : Prop := (xs.take k).map cd = (ys.take k).map cd
theorem Alike.zero {α : Type} {cd : α → List CD} {xs ys : List α} : Alike cd xs ys 0 := by simp [Alike]
theorem Alike.succ {α : Type} {cd : α → List CD} {xs ys : List α} {k : Nat} (h : Alike cd xs ys k) (h1 : k < xs.length) (h2 : k < ys.length) (he : eqV (cd xs[k]) (cd ys[k]) = true) : Alike cd xs ys (k + 1) := by
 unfold Alike at *
 rw [zeq h1, zeq h2, zeu, zeu, h, List.map_singleton, List.map_singleton, (zab _ _).1 he]
theorem Alike.all {α : Type} {cd : α → List CD} {xs ys : List α} {k : Nat} (h : Alike cd xs ys k) (h1 : xs.length ≤ k) (h2 : ys.length ≤ k) : eqR (xs.map cd) (ys.map cd) = true := by
 unfold Alike at h
 rw [List.take_of_length_le h1, List.take_of_length_le h2] at h
 exact (zcr _ _).2 h
theorem zcM {α : Type} {cd : α → List CD} {xs ys : List α} {k : Nat} (h1 : k < xs.length) (h2 : k < ys.length) (he : eqV (cd xs[k]) (cd ys[k]) = false) : eqR (xs.map cd) (ys.map cd) = false := eqR_no fun e => by
 have : (xs.map cd)[k]? = (ys.map cd)[k]? := by rw [e]
 simp [h1, h2] at this
 exact eqV_ne he this
theorem zdg {a a' b b' : List CD} (h : a.length = a'.length) : eqV (a ++ b) (a' ++ b') = (eqV a a' && eqV b b') := by
 rw [Bool.eq_iff_iff, zex, zab, zab, zab]
 exact ⟨fun e => List.append_inj e h, fun ⟨e, e'⟩ => by rw [e, e']⟩
theorem eqV_int (a b : Int) : eqV [.int a] [.int b] = decide (a = b) := by simp [eqV, eqC]
theorem eqV_str (a b : ByteArray) : eqV [.str a] [.str b] = decide (a = b) := by simp [eqV, eqC]
theorem eqV_bool (a b : Bool) : eqV [.bool a] [.bool b] = decide (a = b) := by simp [eqV, eqC]
theorem eqV_sl (a b : List (List CD)) : eqV [.sl a] [.sl b] = eqR a b := by simp [eqV, eqC]
theorem za {w1 w2 : World} {b j : Nat} {v : Value} (h : w1.cell? ⟨b, j, none⟩ = some v) (hb : Below w1.heap.size w1 w2) : w2.cell? ⟨b, j, none⟩ = some v := (hb.cell (p := ⟨b, j, none⟩) (World.block_lt_of_cell? w1 _ h)).trans h
theorem zaB {w : World} {α : Type} {cd : α → List CD} {xs : List α} {v : Value} {f : List Nat} (h : Rd w (.sl (xs.map cd)) v f) : xs.length ≤ 9223372036854775807 := by obtain ⟨a, c, _, h1, h2⟩ := zd h; omega
theorem int_beq (a b : Int) : (a == b) = decide (a = b) := rfl
theorem Tm.cd_mk (n : ByteArray) (ks : List Tm) : (Tm.mk n ks).cd = [.str n, .sl (ks.map Tm.cd)] := by rw [Tm.cd_eq]; rfl
mutual
theorem Tm.beq_cd : ∀ t u : Tm, t.beq u = eqV t.cd u.cd
 | .mk n ks, .mk m js => by
  rw [Tm.cd_mk, Tm.cd_mk]
  simp only [Tm.beq, eqV, eqC, Bool.and_true]
  rw [Tm.beqs_cd ks js]
theorem Tm.beqs_cd : ∀ ts us : List Tm, Tm.beqs ts us = eqR (ts.map Tm.cd) (us.map Tm.cd)
 | [], [] => by simp [Tm.beqs, eqR]
 | [], _ :: _ => by simp [Tm.beqs, eqR]
 | _ :: _, [] => by simp [Tm.beqs, eqR]
 | t :: ts, u :: us => by
  simp only [Tm.beqs, List.map_cons, eqR]
  rw [Tm.beq_cd t u, Tm.beqs_cd ts us]
end
def srtB (n : Int) : Bool := n == 0 || n == 1
def Sy.okB (x : Sy) : Bool := zaa x.name && (decide (x.args.length ≤ 2) && (srtB x.sort && x.args.all srtB))
def nmLt (a b : ByteArray) : Bool := Op.bytesLess a.toList b.toList
def Sg.okAt (s : Sg) (k : Nat) : Bool :=
 match s.syms[k]? with
 | none => true
 | some x => x.okB && (match k with | 0 => true | j + 1 => (match s.syms[j]? with | none => true | some y => nmLt y.name x.name))
def Sg.okB (s : Sg) : Bool := (List.range s.syms.length).all s.okAt && decide (s.syms.length ≤ 7)
theorem Sg.okB_no {s : Sg} {k : Nat} (hk : k < s.syms.length) (h : s.okAt k = false) : s.okB = false := by
 have : (List.range s.syms.length).all s.okAt = false := by rw [List.all_eq_false]; exact ⟨k, by simpa using hk, by simp [h]⟩
 simp [Sg.okB, this]
theorem Sg.okB_all {s : Sg} {k : Nat} (hk : s.syms.length ≤ k) (h : ∀ j, j < k → s.okAt j = true) : s.okB = decide (s.syms.length ≤ 7) := by
 have : (List.range s.syms.length).all s.okAt = true := by rw [List.all_eq_true]; intro j hj; exact h j (by have := List.mem_range.1 hj; omega)
 simp [Sg.okB, this]
theorem Sg.okAt_bad {s : Sg} {k : Nat} (hk : k < s.syms.length) (h : s.syms[k].okB = false) : s.okAt k = false := by simp [Sg.okAt, List.getElem?_eq_getElem hk, h]
theorem Sg.okAt_zero {s : Sg} (hk : 0 < s.syms.length) (h : s.syms[0].okB = true) : s.okAt 0 = true := by simp [Sg.okAt, List.getElem?_eq_getElem hk, h]
theorem Sg.okAt_succ {s : Sg} {k : Nat} (hk : k + 1 < s.syms.length) (h : s.syms[k + 1].okB = true) : s.okAt (k + 1) = nmLt s.syms[k].name s.syms[k + 1].name := by
 simp [Sg.okAt, List.getElem?_eq_getElem hk, List.getElem?_eq_getElem (show k < s.syms.length by omega), h]
theorem zb0 (n : Int) (w : World) : Calls Tryz.prog 97 #[.int .i64 n] w fun e w' => e = .returned (.bool (srtB n)) ∧ w = w' := by
 cases h0 : (n == 0) <;> cases h1 : (n == 1)
 all_goals
  have HF : Hid (srtB n = ((n == 0) || (n == 1))) := Lib.hid rfl
  go_enter Tryz.func97, Tryz.ntmps97
  go_wp2
  go_ret
  exact ⟨retB (by rw [HF.out, h0, h1]; rfl), rfl⟩
theorem zR (n : Int) (w : World) : Calls Tryz.prog 68 #[.int .i64 n] w fun e w' => e = .returned (.bool (srtB n)) ∧ w = w' := by
 cases h0 : (n == 0) <;> cases h1 : (n == 1)
 all_goals
  have HF : Hid (srtB n = ((n == 0) || (n == 1))) := Lib.hid rfl
  go_enter Tryz.func68, Tryz.ntmps68
  go_wp2
  go_ret
  exact ⟨retB (by rw [HF.out, h0, h1]; rfl), rfl⟩
theorem zdh (n : Int) (w : World) : Calls Tryz.prog 99 #[.int .i64 n] w fun e w' => e = .returned (.bool (!srtB n)) ∧ w = w' := by
 go_enter Tryz.func99, Tryz.ntmps99
 go_wp2_with (go_at_call 97; refine (zb0 _ _).mono ?_; rintro e w' ⟨rfl, rfl⟩)
 go_ret
 exact ⟨rfl, rfl⟩
def IdxOut (ok : Bool) (n : Nat) (w : World) (e : Ending) (w' : World) : Prop := ∃ i : Int, e = .returned (.int .i64 i) ∧ ((ok = true ∧ i = -1) ∨ (ok = false ∧ 0 ≤ i ∧ i < n)) ∧ w = w'
theorem zaR {p : Int → Bool} {xs : List Int} {k : Nat} (hk : k < xs.length) (h : (xs.take k).all p = true) (h' : p xs[k] = true) : (xs.take (k + 1)).all p = true := by
 rw [zeq hk, List.all_append, h]; simp [h']
theorem zbw {p : Int → Bool} {xs : List Int} {k : Nat} (hk : k < xs.length) (h' : p xs[k] = false) : xs.all p = false := by
 rw [List.all_eq_false]; exact ⟨xs[k], zes hk, by simp [h']⟩
theorem zbS (xs : List Int) (v : Value) (f : List Nat) (w : World) (hv : Rd w (.sl (xs.map zk)) v f) :
  Calls Tryz.prog 117 #[v, .func (.func 99) #[] #[]] w (IdxOut (xs.all srtB) xs.length w) := by
 obtain ⟨a, c, rfl, hc1, hc2⟩ := zd hv
 go_enter Tryz.func117, Tryz.ntmps117
 go_wp2_with fail
 go_loop [8] (fun i => ∃ k : Nat, k ≤ xs.length ∧ i = .int .i64 k ∧ Hid ((xs.take k).all srtB = true)) (fun i => xs.length - (intOf i).toNat)
 case atStart => exact ⟨0, Nat.zero_le _, rfl, Lib.hid (by simp)⟩
 case round =>
  obtain ⟨k, hkl, rfl, hall⟩ := hrel
  by_cases hlt : k < xs.length
  ·obtain ⟨b, off, rfl, hbs, _⟩ := zm hv (by omega)
   obtain ⟨d0, _⟩ := zL hv hlt
   go_wp2_with fail
   refine (zdh _ _).mono ?_
   rintro e w2 ⟨rfl, rfl⟩
   cases he : srtB xs[k]
   ·have HE := Lib.hid (zbw hlt he)
    have he' : (!srtB xs[k]) = true := by rw [he]; rfl
    go_wp2_with fail
    go_ret
    exact ⟨k, rfl, .inr ⟨HE.out, by omega, by omega⟩, rfl⟩
   ·have HE := Lib.hid (zaR hlt hall.out he)
    have he' : (!srtB xs[k]) = false := by rw [he]; rfl
    go_wp2_with fail
    go_round
    case rel => exact ⟨k + 1, by omega, by go_num, HE⟩
    case measure => simp [intOf]; omega
  ·have HE : Hid (xs.all srtB = true) := Lib.hid (by have := hall.out; rwa [List.take_of_length_le (by omega)] at this)
   go_wp2_with fail
   go_ret
   exact ⟨-1, rfl, .inl ⟨HE.out, rfl⟩, rfl⟩
theorem zbT (xs : List Int) (v : Value) (f : List Nat) (w : World) (hv : Rd w (.sl (xs.map zk)) v f) :
  Calls Tryz.prog 98 #[v, .func (.func 99) #[] #[]] w fun e w' => e = .returned (.bool (!xs.all srtB)) ∧ w = w' := by
 obtain ⟨a, c, rfl, hc1, hc2⟩ := zd hv
 go_enter Tryz.func98, Tryz.ntmps98
 go_wp2_with fail
 refine (zbS xs _ f _ hv).mono ?_
 rintro e w' ⟨i, rfl, ⟨hi, rfl⟩ | ⟨hi, h0, h1⟩, rfl⟩
 ·have HI := Lib.hid hi
  clear hi
  go_wp2_with fail
  go_ret
  exact ⟨retB (by rw [HI.out]; rfl), rfl⟩
 ·have HI := Lib.hid hi
  clear hi
  go_wp2_with fail
  go_ret
  exact ⟨retB (by rw [HI.out]; simp; try omega), rfl⟩
theorem zaX (x : Sy) (vs : List Value) (f : List Nat) (w : World) (hv : RdVs w x.cd vs f) :
  Calls Tryz.prog 64 #[.agg vs.toArray] w fun e w' => e = .returned (.bool x.okB) ∧ Below w.heap.size w w' := by
 obtain ⟨a1, c1, f1, rfl, _, m0, m1, m2⟩ := Sy.open hv
 have HB : Hid (x.okB = (zaa x.name && (decide (x.args.length ≤ 2) && (srtB x.sort && x.args.all srtB)))) := Lib.hid rfl
 have hl := zaB m1
 go_enter Tryz.func64, Tryz.ntmps64
 go_wp2_with fail
 refine (zaJ _ _ m0).mono ?_
 rintro e w' ⟨rfl, rfl⟩
 cases h1 : zaa x.name
 ·go_wp2_with fail
  go_ret
  exact ⟨retB (by rw [HB.out, h1]; rfl), zb _ _⟩
 have H1 := Lib.hid h1
 clear h1
 by_cases h2 : x.args.length ≤ 2
 rotate_left
 ·go_wp2_with fail
  go_ret
  exact ⟨retB (by rw [HB.out, H1.out, decide_eq_false h2]; rfl), zb _ _⟩
 go_wp2_with fail
 refine (zb0 _ _).mono ?_
 rintro e w' ⟨rfl, rfl⟩
 cases h3 : srtB x.sort
 ·go_wp2_with fail
  go_ret
  exact ⟨retB (by rw [HB.out, H1.out, decide_eq_true h2, h3]; rfl), zb _ _⟩
 have H3 := Lib.hid h3
 clear h3
 go_wp2_with fail
 refine (zbT x.args _ _ _ (by exact m1.below (zb _ _))).mono ?_
 rintro e w' ⟨rfl, rfl⟩
 go_wp2_with fail
 go_ret
 exact ⟨retB (by rw [HB.out, H1.out, decide_eq_true h2, H3.out]; simp), zb _ _⟩
theorem Wy.eqv (x y : Wy) : eqV x.cd y.cd = ((x.rule == y.rule) && ((x.n == y.n) && (eqV x.t.cd y.t.cd && eqR (x.kids.map Wy.cd) (y.kids.map Wy.cd)))) := by
 rw [Wy.cd_eq x, Wy.cd_eq y]
 rw [zdg (by simp)]
 rw [zdg (by simp)]
 rw [zdg (by simp [Tm.cd_len])]
 simp only [eqV_int, eqV_str, eqV_bool, eqV_sl, ← Bool.beq_eq_decide_eq, ← int_beq]
theorem Wy.eqv_rule {x y : Wy} (h : (x.rule == y.rule) = false) : eqV x.cd y.cd = false := by rw [Wy.eqv]; simp [h]
theorem Wy.eqv_n {x y : Wy} (h : (x.n == y.n) = false) : eqV x.cd y.cd = false := by rw [Wy.eqv]; simp [h]
theorem Wy.eqv_t {x y : Wy} (h : eqV x.t.cd y.t.cd = false) : eqV x.cd y.cd = false := by rw [Wy.eqv]; simp [h]
theorem Wy.eqv_kids {x y : Wy} (h : eqR (x.kids.map Wy.cd) (y.kids.map Wy.cd) = false) : eqV x.cd y.cd = false := by rw [Wy.eqv]; simp [h]
theorem equalWy_f (xs ys : List Wy) (hq : ∀ x ∈ xs, ∀ (y : Wy) (vs us : List Value) (f f' : List Nat) (w : World), RdVs w x.cd vs f → RdVs w y.cd us f' → Calls Tryz.prog 13 #[.agg vs.toArray, .agg us.toArray] w fun e w' => e = .returned (.bool (eqV x.cd y.cd)) ∧ Below w.heap.size w w')
  (v u : Value) (f f' : List Nat) (w : World) (hv : Rd w (.sl (xs.map Wy.cd)) v f) (hx : Rd w (.sl (ys.map Wy.cd)) u f') :
  Calls Tryz.prog 35 #[v, u, .func (.func 13) #[] #[]] w fun e w' => e = .returned (.bool (eqR (xs.map Wy.cd) (ys.map Wy.cd))) ∧ Below w.heap.size w w' := by
 obtain ⟨a, c, rfl, hc1, hc2⟩ := zd hv
 obtain ⟨a', c', rfl, hc1', hc2'⟩ := zd hx
 have HQ := Lib.hid hq
 clear hq
 by_cases hl : xs.length = ys.length
 ·have hlb : ((xs.length : Int) != (ys.length : Int)) = false := by rw [hl]; simp
  have hl1 : xs.length ≤ ys.length := by omega
  have hl2 : ys.length ≤ xs.length := by omega
  clear hl
  go_enter Tryz.func35, Tryz.ntmps35
  go_wp2_with fail
  go_loopw [17] (fun i wr => ∃ k : Nat, k ≤ xs.length ∧ i = .int .i64 k ∧ Hid (Alike Wy.cd xs ys k) ∧ Below w.heap.size w wr) (fun i _ => xs.length - (intOf i).toNat)
  case atStart => exact ⟨0, Nat.zero_le _, rfl, Lib.hid Alike.zero, Below.refl _ _⟩
  case round =>
   obtain ⟨k, hkl, rfl, hall, hb⟩ := hrel
   have hz := hb.size
   by_cases hlt : k < xs.length
   ·obtain ⟨b, off, rfl, hbs, _⟩ := zm hv (by omega)
    obtain ⟨b', off', rfl, hbs', _⟩ := zm hx (by omega)
    have hlt' : k < ys.length := by omega
    obtain ⟨a3, c3, f3, a4, c4, f4, d0, d1, d2, d3, d4, m0, m1, m2, m3, m4, _⟩ := Wy.at (hv.below hb) hlt
    obtain ⟨a3', c3', f3', a4', c4', f4', d0', d1', d2', d3', d4', m0', m1', m2', m3', m4', _⟩ := Wy.at (hx.below hb) hlt'
    have hbz : b' < wr.heap.size := by omega
    go_wp2_with fail
    refine (HQ.out xs[k] (zes hlt) ys[k] _ _ _ _ _ (by exact (Wy.close m0 m1 m2 m3 m4).below (((Below.refl _ _).alloc (Nat.le_refl _) _).alloc (by simp) _)) (by exact (Wy.close m0' m1' m2' m3' m4').below (((Below.refl _ _).alloc (Nat.le_refl _) _).alloc (by simp) _))).mono ?_
    rintro e w2 ⟨rfl, hb2⟩
    have hb3 : Below wr.heap.size wr w2 := ((((Below.refl _ _).alloc (Nat.le_refl _) _).alloc (by simp) _)).trans (hb2.mono (by simp; try omega))
    clear hb2
    cases he : eqV (xs[k].cd) (ys[k].cd)
    ·have HE := Lib.hid he
     clear he
     go_wp2_with fail
     go_ret
     exact ⟨retB (zcM hlt hlt' HE.out).symm, hb.trans (hb3.mono (by omega))⟩
    ·have HE := Lib.hid he
     clear he
     go_wp2_with fail
     go_roundw
     case rel => exact ⟨k + 1, by omega, by go_num, hall.out.succ hlt hlt' HE.out, hb.trans (hb3.mono (by omega))⟩
     case measure => simp [intOf]; omega
   ·go_wp2_with fail
    go_ret
    exact ⟨retB (hall.out.all (by omega) (by omega)).symm, hb⟩
 ·have hlb : ((xs.length : Int) != (ys.length : Int)) = true := by rw [bne_iff_ne]; omega
  have HF := Lib.hid (eqR_len (cd := Wy.cd) hl)
  clear hl
  go_enter Tryz.func35, Tryz.ntmps35
  go_wp2_with fail
  go_ret
  exact ⟨retB HF.out.symm, Below.refl _ _⟩
theorem zdS (x y : Tm) (vs us : List Value) (f f' : List Nat) (w : World) (hv : RdVs w x.cd vs f) (hx : RdVs w y.cd us f') :
  Calls Tryz.prog 8 #[.agg vs.toArray, .agg us.toArray] w fun e w' => e = .returned (.bool (eqV x.cd y.cd)) ∧ Below w.heap.size w w' := by
 obtain ⟨a1, c1, f1, rfl, _, m0, m1⟩ := Tm.open hv
 obtain ⟨a1', c1', f1', rfl, _, m0', m1'⟩ := Tm.open hx
 rw [← Tm.beq_cd]
 exact zak _ x y _ _ w (Nat.le_refl _) (TmR.mk m0 ⟨_, m1⟩) (TmR.mk m0' ⟨_, m1'⟩)
theorem sameTmS_x (x y : Tm) (vs us : List Value) (f f' : List Nat) (w : World) (hv : RdVs w x.cd vs f) (hx : RdVs w y.cd us f') :
  Calls Tryz.prog 36 #[.agg vs.toArray, .agg us.toArray] w fun e w' => e = .returned (.bool (eqV x.cd y.cd)) ∧ Below w.heap.size w w' := by
 obtain ⟨a1, c1, f1, rfl, _, m0, m1⟩ := Tm.open hv
 obtain ⟨a1', c1', f1', rfl, _, m0', m1'⟩ := Tm.open hx
 rw [← Tm.beq_cd]
 exact zaN _ x y _ _ w (Nat.le_refl _) (TmR.mk m0 ⟨_, m1⟩) (TmR.mk m0' ⟨_, m1'⟩)
theorem sameWy_n (n : Nat) : ∀ (x y : Wy) (vs us : List Value) (f f' : List Nat) (w : World), ndV x.cd ≤ n → RdVs w x.cd vs f → RdVs w y.cd us f' → Calls Tryz.prog 13 #[.agg vs.toArray, .agg us.toArray] w fun e w' => e = .returned (.bool (eqV x.cd y.cd)) ∧ Below w.heap.size w w' := by
 induction n with
 | zero => intro x y vs us f f' w hn; have h : 0 < ndV x.cd := (by rw [Wy.cd_eq]; simp [ndV, ndC]; try omega); omega
 | succ n ih =>
  intro x y vs us f f' w hn hv hx
  have HK : Hid (∀ k ∈ x.kids, ndV k.cd ≤ n) := fun k hk => by have := Wy.kid_nd hk; omega
  have IH := Lib.hid ih
  clear ih
  obtain ⟨a3, c3, f3, a4, c4, f4, rfl, _, m0, m1, m2, m3, m4⟩ := Wy.open hv
  obtain ⟨a3', c3', f3', a4', c4', f4', rfl, _, m0', m1', m2', m3', m4'⟩ := Wy.open hx
  go_enter Tryz.func13, Tryz.ntmps13
  cases tk1 : (x.rule == y.rule)
  ·have HF := Lib.hid (Wy.eqv_rule tk1)
   go_wp2_with fail
   go_ret
   exact ⟨retB HF.out.symm, (((Below.refl _ _).alloc (Nat.le_refl _) _).alloc (by simp) _)⟩
  have HT_rule := Lib.hid tk1
  cases tk2 : (x.n == y.n)
  ·have HF := Lib.hid (Wy.eqv_n tk2)
   go_wp2_with fail
   go_ret
   exact ⟨retB HF.out.symm, (((Below.refl _ _).alloc (Nat.le_refl _) _).alloc (by simp) _)⟩
  have HT_n := Lib.hid tk2
  go_wp2_with fail
  refine (zdS x.t y.t _ _ _ _ _ (by exact (Tm.close m2 m3).below (((Below.refl _ _).alloc (Nat.le_refl _) _).alloc (by simp) _)) (by exact (Tm.close m2' m3').below (((Below.refl _ _).alloc (Nat.le_refl _) _).alloc (by simp) _))).mono ?_
  rintro e w1 ⟨rfl, hb1⟩
  obtain ⟨hx1, hy1, hz1, hB1⟩ := box2 (w := w) (wr := w1) (cs := #[.int .i64 x.rule, .int .i64 x.n, .string x.t.name, .slice a3 x.t.kids.length c3, .slice a4 x.kids.length c4]) (ds := #[.int .i64 y.rule, .int .i64 y.n, .string y.t.name, .slice a3' y.t.kids.length c3', .slice a4' y.kids.length c4']) (T := 32) (U := 32) (zK hb1 (by simp))
  cases hq1 : eqV x.t.cd y.t.cd
  ·have HF := Lib.hid (Wy.eqv_t hq1)
   clear hq1
   go_wp2_with fail
   go_ret
   exact ⟨retB HF.out.symm, hB1⟩
  have HT_t := Lib.hid hq1
  clear hq1
  go_wp2_with fail
  refine ((equalWy_f x.kids y.kids (fun k hk y' vs us f f' w => IH.out k y' vs us f f' w (HK.out k hk))) _ _ _ _ _ (by exact m4.below hB1) (by exact m4'.below hB1)).mono ?_
  rintro e w2 ⟨rfl, hb2⟩
  have hB2 := hB1.trans (hb2.mono (by omega))
  have hx2 := zaj hx1 (by omega) hb2
  have hy2 := zaj hy1 (by omega) hb2
  have hz2 := Nat.le_trans hz1 hb2.size
  clear hx1 hy1
  cases hq2 : eqR (x.kids.map Wy.cd) (y.kids.map Wy.cd)
  ·have HF := Lib.hid (Wy.eqv_kids hq2)
   clear hq2
   go_wp2_with fail
   go_ret
   exact ⟨retB HF.out.symm, hB2⟩
  have HT_kids := Lib.hid hq2
  clear hq2
  go_wp2_with fail
  go_ret
  exact ⟨retB (by rw [Wy.eqv, HT_rule.out, HT_n.out, HT_t.out, HT_kids.out]; try rfl), hB2⟩
theorem za3 (x y : Wy) (vs us : List Value) (f f' : List Nat) (w : World) (hv : RdVs w x.cd vs f) (hx : RdVs w y.cd us f') :
  Calls Tryz.prog 13 #[.agg vs.toArray, .agg us.toArray] w fun e w' => e = .returned (.bool (eqV x.cd y.cd)) ∧ Below w.heap.size w w' := sameWy_n _ x y vs us f f' w (Nat.le_refl _) hv hx
theorem sameWyS_n (n : Nat) : ∀ (x y : Wy) (vs us : List Value) (f f' : List Nat) (w : World), ndV x.cd ≤ n → RdVs w x.cd vs f → RdVs w y.cd us f' → Calls Tryz.prog 14 #[.agg vs.toArray, .agg us.toArray] w fun e w' => e = .returned (.bool (eqV x.cd y.cd)) ∧ Below w.heap.size w w' := by
 induction n with
 | zero => intro x y vs us f f' w hn; have h : 0 < ndV x.cd := (by rw [Wy.cd_eq]; simp [ndV, ndC]; try omega); omega
 | succ n ih =>
  intro x y vs us f f' w hn hv hx
  have HK : Hid (∀ k ∈ x.kids, ndV k.cd ≤ n) := fun k hk => by have := Wy.kid_nd hk; omega
  have IH := Lib.hid ih
  clear ih
  obtain ⟨a3, c3, f3, a4, c4, f4, rfl, _, m0, m1, m2, m3, m4⟩ := Wy.open hv
  obtain ⟨a3', c3', f3', a4', c4', f4', rfl, _, m0', m1', m2', m3', m4'⟩ := Wy.open hx
  go_enter Tryz.func14, Tryz.ntmps14
  cases tk1 : (x.rule == y.rule)
  ·have HF := Lib.hid (Wy.eqv_rule tk1)
   have tn : (x.rule != y.rule) = true := by rw [bne, tk1]; rfl
   go_wp2_with fail
   go_ret
   exact ⟨retB HF.out.symm, (((Below.refl _ _).alloc (Nat.le_refl _) _).alloc (by simp) _)⟩
  have HT_rule := Lib.hid tk1
  have tn1 : (x.rule != y.rule) = false := by rw [bne, tk1]; rfl
  cases tk2 : (x.n == y.n)
  ·have HF := Lib.hid (Wy.eqv_n tk2)
   have tn : (x.n != y.n) = true := by rw [bne, tk2]; rfl
   go_wp2_with fail
   go_ret
   exact ⟨retB HF.out.symm, (((Below.refl _ _).alloc (Nat.le_refl _) _).alloc (by simp) _)⟩
  have HT_n := Lib.hid tk2
  have tn2 : (x.n != y.n) = false := by rw [bne, tk2]; rfl
  go_wp2_with fail
  refine (sameTmS_x x.t y.t _ _ _ _ _ (by exact (Tm.close m2 m3).below (((Below.refl _ _).alloc (Nat.le_refl _) _).alloc (by simp) _)) (by exact (Tm.close m2' m3').below (((Below.refl _ _).alloc (Nat.le_refl _) _).alloc (by simp) _))).mono ?_
  rintro e w1 ⟨rfl, hb1⟩
  obtain ⟨hx1, hy1, hz1, hB1⟩ := box2 (w := w) (wr := w1) (cs := #[.int .i64 x.rule, .int .i64 x.n, .string x.t.name, .slice a3 x.t.kids.length c3, .slice a4 x.kids.length c4]) (ds := #[.int .i64 y.rule, .int .i64 y.n, .string y.t.name, .slice a3' y.t.kids.length c3', .slice a4' y.kids.length c4']) (T := 32) (U := 32) (zK hb1 (by simp))
  cases hq1 : eqV x.t.cd y.t.cd
  ·have HF := Lib.hid (Wy.eqv_t hq1)
   clear hq1
   go_wp2_with fail
   go_ret
   exact ⟨retB HF.out.symm, hB1⟩
  have HT_t := Lib.hid hq1
  clear hq1
  by_cases tk3 : x.kids.length = y.kids.length
  rotate_left
  ·have tf : ((x.kids.length : Int) != (y.kids.length : Int)) = true := by rw [bne_iff_ne]; omega
   have HF := Lib.hid (Wy.eqv_kids (x := x) (y := y) (eqR_len tk3))
   clear tk3
   go_wp2_with fail
   go_ret
   exact ⟨retB HF.out.symm, hB1⟩
  have tq3 : ((x.kids.length : Int) != (y.kids.length : Int)) = false := by rw [tk3]; simp
  have tl3 : x.kids.length ≤ y.kids.length := by omega
  have tm3 : y.kids.length ≤ x.kids.length := by omega
  clear tk3
  go_wp2_with fail
  go_loopw [5] (fun i wq => ∃ k : Nat, k ≤ x.kids.length ∧ i = .int .i64 k ∧ Hid (Alike Wy.cd x.kids y.kids k) ∧ Below w1.heap.size w1 wq) (fun i _ => x.kids.length - (intOf i).toNat)
  case atStart => exact ⟨0, Nat.zero_le _, rfl, Lib.hid Alike.zero, Below.refl _ _⟩
  case round =>
   obtain ⟨k1, hkl1, rfl, hall1, hL1⟩ := hrel
   have hBL1 := hB1.trans (hL1.mono (by omega))
   have hxL1 := zaj hx1 (by omega) hL1
   have hyL1 := zaj hy1 (by omega) hL1
   have hzL1 := Nat.le_trans hz1 hL1.size
   clear hx1 hy1
   have cx := hxL1 4
   have cy := hyL1 4
   simp only [zeo, zem, zen] at cx cy
   have hlen1 := zaB m4
   by_cases hlt : k1 < x.kids.length
   ·obtain ⟨b, off, rfl, hbs, _⟩ := zm m4 (by omega)
    obtain ⟨b', off', rfl, hbs', _⟩ := zm m4' (by omega)
    have hlt' : k1 < y.kids.length := by omega
    obtain ⟨ea3, ec3, ef3, ea4, ec4, ef4, d0, d1, d2, d3, d4, em0, em1, em2, em3, em4, _⟩ := Wy.at (m4.below hBL1) hlt
    obtain ⟨ea3', ec3', ef3', ea4', ec4', ef4', d0', d1', d2', d3', d4', em0', em1', em2', em3', em4', _⟩ := Wy.at (m4'.below hBL1) hlt'
    cases he : eqV (Wy.cd x.kids[k1]) (Wy.cd y.kids[k1])
    ·have HE := Lib.hid he
     go_wp2_with fail
     have qd0 := cell_regrown d0
     have qd1 := cell_regrown d1
     have qd2 := cell_regrown d2
     have qd3 := cell_regrown d3
     have qd4 := cell_regrown d4
     have qd0' := cell_regrown d0'
     have qd1' := cell_regrown d1'
     have qd2' := cell_regrown d2'
     have qd3' := cell_regrown d3'
     have qd4' := cell_regrown d4'
     have qcx := cell_regrown cx
     have qcy := cell_regrown cy
     refine wp_region_quiet_below (by kernel_rfl) (by kernel_rfl) ?_
     repeat (quiet_step (refine Calls.regrown_of (IH.out x.kids[k1] y.kids[k1] _ _ _ _ _ (HK.out _ (zes hlt)) ((Wy.close em0 em1 em2 em3 em4).below (below_regrown _ _ _)) ((Wy.close em0' em1' em2' em3' em4').below (below_regrown _ _ _)))))
     refine wpQuiet_nil ?_
     intro wq0 hwq
     obtain ⟨⟨dq, osq⟩, hwq⟩ := hwq
     have hbq0 : Below wr.heap.size wr wq0 := hwq ▸ below_regrown wr dq osq
     clear hwq qcx qcy qd0 qd1 qd2 qd3 qd4 qd0' qd1' qd2' qd3' qd4'
     try rw [he]
     go_wp2_with fail
     go_ret
     exact ⟨retB (Wy.eqv_kids (zcM hlt hlt' HE.out)).symm, hBL1.trans (hbq0.mono (by omega))⟩
    ·have HE := Lib.hid he
     go_wp2_with fail
     have qd0 := cell_regrown d0
     have qd1 := cell_regrown d1
     have qd2 := cell_regrown d2
     have qd3 := cell_regrown d3
     have qd4 := cell_regrown d4
     have qd0' := cell_regrown d0'
     have qd1' := cell_regrown d1'
     have qd2' := cell_regrown d2'
     have qd3' := cell_regrown d3'
     have qd4' := cell_regrown d4'
     have qcx := cell_regrown cx
     have qcy := cell_regrown cy
     refine wp_region_quiet_below (by kernel_rfl) (by kernel_rfl) ?_
     repeat (quiet_step (refine Calls.regrown_of (IH.out x.kids[k1] y.kids[k1] _ _ _ _ _ (HK.out _ (zes hlt)) ((Wy.close em0 em1 em2 em3 em4).below (below_regrown _ _ _)) ((Wy.close em0' em1' em2' em3' em4').below (below_regrown _ _ _)))))
     refine wpQuiet_nil ?_
     intro wq0 hwq
     obtain ⟨⟨dq, osq⟩, hwq⟩ := hwq
     have hbq0 : Below wr.heap.size wr wq0 := hwq ▸ below_regrown wr dq osq
     clear hwq qcx qcy qd0 qd1 qd2 qd3 qd4 qd0' qd1' qd2' qd3' qd4'
     go_wp2_with fail
     go_roundw
     case rel => exact ⟨k1 + 1, by omega, by go_num, hall1.out.succ hlt hlt' HE.out, hL1.trans (hbq0.mono (by have := hL1.size; omega))⟩
     case measure => simp [intOf]; omega
   have HT_kids := Lib.hid (hall1.out.all (by omega) (by omega))
   clear cx cy
   go_wp2_with fail
   go_ret
   exact ⟨retB (by rw [Wy.eqv, HT_rule.out, HT_n.out, HT_t.out, HT_kids.out]; rfl), hBL1⟩
theorem sameWyS_x (x y : Wy) (vs us : List Value) (f f' : List Nat) (w : World) (hv : RdVs w x.cd vs f) (hx : RdVs w y.cd us f') :
  Calls Tryz.prog 14 #[.agg vs.toArray, .agg us.toArray] w fun e w' => e = .returned (.bool (eqV x.cd y.cd)) ∧ Below w.heap.size w w' := sameWyS_n _ x y vs us f f' w (Nat.le_refl _) hv hx
end Go.Proofs.YtlefdhhnlbpbkaaGreat
end
