/- Parts of the proof: ExLib SameLib Sig Wt SameA SameB. -/
import Derived.Lib.QuietBelow
import Derived.Test.YtbfinjiledfpcaaGreatPa9
import Derived.Test.YtbfinjiledfpcaaGreatPa4
import Derived.Test.YtbfinjiledfpcaaGreatPa5
import Derived.Deep.QuietTactic
import Derived.BigQuiet
namespace Go.Proofs.YtbfinjiledfpcaaGreat
open Go Go.RowKit
set_option linter.unusedVariables false
set_option linter.unusedSimpArgs false
mutual
def wtC : CD → Nat
 | .str s => s.size
 | .sl es => es.length + wtR es
 | _ => 0
def wtR : List (List CD) → Nat
 | [] => 0
 | e :: es => wtV e + wtR es
def wtV : List CD → Nat
 | [] => 0
 | d :: ds => wtC d + wtV ds
end
mutual
def ndC : CD → Nat
 | .sl es => 1 + ndR es
 | _ => 1
def ndR : List (List CD) → Nat
 | [] => 0
 | e :: es => 1 + ndV e + ndR es
def ndV : List CD → Nat
 | [] => 0
 | d :: ds => ndC d + ndV ds
end
theorem zU : ∀ (a b : List CD), wtV (a ++ b) = wtV a + wtV b
 | [], b => by simp [wtV]
 | d :: ds, b => by simp only [List.cons_append, wtV, zU ds b]; omega
theorem zY : ∀ (a b : List (List CD)), wtR (a ++ b) = wtR a + wtR b
 | [], b => by simp [wtR]
 | d :: ds, b => by simp only [List.cons_append, wtR, zY ds b]; omega
theorem ndR_mem : ∀ {es : List (List CD)} {e : List CD}, e ∈ es → ndV e < ndR es
 | [], e, h => by simp at h
 | d :: ds, e, h => by
  simp only [ndR]
  rcases zfn.1 h with rfl | h
  ·omega
  ·have := ndR_mem h; omega
theorem ndV_sl {es : List (List CD)} {ds : List CD} (h : CD.sl es ∈ ds) : ndR es < ndV ds := by
 induction ds with
 | nil => simp at h
 | cons d ds ih =>
  simp only [ndV]
  rcases zfn.1 h with rfl | h
  ·simp only [ndC]; omega
  ·have := ih h; omega
theorem zL {α : Type} (f : α → List CD) (ts : List α) (k : Nat) (h : k < ts.length) : wtR ((ts.map f).take (k + 1)) = wtR ((ts.map f).take k) + wtV (f ts[k]) := by
 rw [zfi (by simpa using h), zY]; simp [wtR]
theorem zy {α : Type} (f : α → List CD) (ts : List α) (k : Nat) : wtR ((ts.map f).take k) ≤ wtR (ts.map f) := by
 have := zY ((ts.map f).take k) ((ts.map f).drop k); rw [List.take_append_drop] at this; omega
theorem wtR_ints (ns : List Int) : wtR (ns.map zm) = 0 := by induction ns with
 | nil => rfl
 | cons n ns ih => simp only [List.map_cons, wtR, ih, zm, wtV, wtC]
theorem zbH (n : Int) : wtV [.int n] = 0 := rfl
theorem zaG (n : Bool) : wtV [.bool n] = 0 := rfl
theorem zcF {α : Type} (f : α → List CD) (xs : List α) : wtV [.sl (xs.map f)] = xs.length + wtR (xs.map f) := by simp [wtV, wtC]
theorem zd {w1 w2 : World} {b : Nat} {cs : Array Value} (h : ∀ j, w1.cell? ⟨b, j, none⟩ = cs[j]?) (hl : b < w1.heap.size) (hb : Below w1.heap.size w1 w2) : ∀ j, w2.cell? ⟨b, j, none⟩ = cs[j]? :=
 fun j => (hb.cell (p := ⟨b, j, none⟩) hl).trans (h j)
theorem Fm.kid_nd {x k : Fm} (h : k ∈ x.kids) : ndV k.cd < ndV x.cd := by
 have h1 := ndR_mem (List.mem_map_of_mem (f := Fm.cd) h)
 have h2 : ndR (x.kids.map Fm.cd) < ndV x.cd := ndV_sl (by rw [Fm.cd_eq]; simp)
 omega
end Go.Proofs.YtbfinjiledfpcaaGreat
namespace Go.Proofs.YtbfinjiledfpcaaGreat
open Go Go.RowKit
set_option linter.unusedVariables false
set_option linter.unusedSimpArgs false
mutual
def eqC : CD → CD → Bool
 | .int a, .int b => decide (a = b)
 | .str a, .str b => decide (a = b)
 | .bool a, .bool b => decide (a = b)
 | .sl a, .sl b => eqR a b
 | _, _ => false
def eqR : List (List CD) → List (List CD) → Bool
 | [], [] => true
 | a :: l, b :: l2 => eqV a b && eqR l l2
 | _, _ => false
def eqV : List CD → List CD → Bool
 | [], [] => true
 | a :: l, b :: l2 => eqC a b && eqV l l2
 | _, _ => false
end
mutual
theorem eqC_iff : ∀ (a b : CD), eqC a b = true ↔ a = b
 | .int a, b => by cases b <;> simp [eqC]
 | .str a, b => by cases b <;> simp [eqC]
 | .bool a, b => by cases b <;> simp [eqC]
 | .sl a, b => by cases b <;> simp [eqC, zcT a]
theorem zcT : ∀ (a b : List (List CD)), eqR a b = true ↔ a = b
 | [], b => by cases b <;> simp [eqR]
 | a :: l, b => by cases b <;> simp [eqR, zaa a, zcT l]
theorem zaa : ∀ (a b : List CD), eqV a b = true ↔ a = b
 | [], b => by cases b <;> simp [eqV]
 | a :: l, b => by cases b <;> simp [eqV, eqC_iff a, zaa l]
end
theorem zep (a : List CD) : eqV a a = true := (zaa _ _).2 rfl
theorem eqV_no {a b : List CD} (h : a ≠ b) : eqV a b = false := by rw [Bool.eq_false_iff]; intro h'; exact h ((zaa _ _).1 h')
theorem eqR_no {a b : List (List CD)} (h : a ≠ b) : eqR a b = false := by rw [Bool.eq_false_iff]; intro h'; exact h ((zcT _ _).1 h')
theorem eqV_ne {a b : List CD} (h : eqV a b = false) : a ≠ b := by rintro rfl; rw [zep] at h; simp at h
theorem zdY {α : Type} {cd : α → List CD} {xs ys : List α} (h : xs.length ≠ ys.length) : eqR (xs.map cd) (ys.map cd) = false := eqR_no fun e => h (by have := congrArg List.length e; simpa using this)
/-- All up to a place alike. -/
def Alike {α : Type} (cd : α → List CD) (xs ys : List α) (k : Nat) : Prop := (xs.take k).map cd = (ys.take k).map cd
theorem Alike.zero {α : Type} {cd : α → List CD} {xs ys : List α} : Alike cd xs ys 0 := by simp [Alike]
theorem Alike.succ {α : Type} {cd : α → List CD} {xs ys : List α} {k : Nat} (h : Alike cd xs ys k) (h1 : k < xs.length) (h2 : k < ys.length) (he : eqV (cd xs[k]) (cd ys[k]) = true) : Alike cd xs ys (k + 1) := by
 unfold Alike at *
 rw [zfi h1, zfi h2, zfm, zfm, h, List.map_singleton, List.map_singleton, (zaa _ _).1 he]
theorem Alike.all {α : Type} {cd : α → List CD} {xs ys : List α} {k : Nat} (h : Alike cd xs ys k) (h1 : xs.length ≤ k) (h2 : ys.length ≤ k) : eqR (xs.map cd) (ys.map cd) = true := by
 unfold Alike at h
 rw [List.take_of_length_le h1, List.take_of_length_le h2] at h
 exact (zcT _ _).2 h
theorem zca {α : Type} {cd : α → List CD} {xs ys : List α} {k : Nat} (h1 : k < xs.length) (h2 : k < ys.length) (he : eqV (cd xs[k]) (cd ys[k]) = false) : eqR (xs.map cd) (ys.map cd) = false := eqR_no fun e => by
 have : (xs.map cd)[k]? = (ys.map cd)[k]? := by rw [e]
 simp [h1, h2] at this
 exact eqV_ne he this
theorem zbI {a a' b b' : List CD} (h : a.length = a'.length) : eqV (a ++ b) (a' ++ b') = (eqV a a' && eqV b b') := by
 rw [Bool.eq_iff_iff, zfp, zaa, zaa, zaa]
 exact ⟨fun e => List.append_inj e h, fun ⟨e, e'⟩ => by rw [e, e']⟩
theorem eqV_int (a b : Int) : eqV [.int a] [.int b] = decide (a = b) := by simp [eqV, eqC]
theorem eqV_str (a b : ByteArray) : eqV [.str a] [.str b] = decide (a = b) := by simp [eqV, eqC]
theorem eqV_bool (a b : Bool) : eqV [.bool a] [.bool b] = decide (a = b) := by simp [eqV, eqC]
theorem eqV_sl (a b : List (List CD)) : eqV [.sl a] [.sl b] = eqR a b := by simp [eqV, eqC]
theorem zb {w1 w2 : World} {b j : Nat} {v : Value} (h : w1.cell? ⟨b, j, none⟩ = some v) (hb : Below w1.heap.size w1 w2) : w2.cell? ⟨b, j, none⟩ = some v := (hb.cell (p := ⟨b, j, none⟩) (World.block_lt_of_cell? w1 _ h)).trans h
theorem zan {w : World} {α : Type} {cd : α → List CD} {xs : List α} {v : Value} {f : List Nat} (h : Rd w (.sl (xs.map cd)) v f) : xs.length ≤ 9223372036854775807 := by obtain ⟨a, c, _, h1, h2⟩ := ze h; omega
theorem int_beq (a b : Int) : (a == b) = decide (a = b) := rfl
theorem Tm.cd_mk (n : ByteArray) (ks : List Tm) : (Tm.mk n ks).cd = [.str n, .sl (ks.map Tm.cd)] := by rw [Tm.cd_eq]; rfl
mutual
theorem Tm.beq_cd : ∀ t u : Tm, t.beq u = eqV t.cd u.cd
 | .mk n ks, .mk m js => by
  rw [Tm.cd_mk, Tm.cd_mk]
  simp only [Tm.beq, eqV, eqC, Bool.and_true]
  rw [Tm.beqs_cd ks js]
theorem Tm.beqs_cd : ∀ ts us : List Tm, Tm.beqs ts us = eqR (ts.map Tm.cd) (us.map Tm.cd)
 | [], [] => by simp [Tm.beqs, eqR]
 | [], _ :: _ => by simp [Tm.beqs, eqR]
 | _ :: _, [] => by simp [Tm.beqs, eqR]
 | t :: ts, u :: us => by
  simp only [Tm.beqs, List.map_cons, eqR]
  rw [Tm.beq_cd t u, Tm.beqs_cd ts us]
end
end Go.Proofs.YtbfinjiledfpcaaGreat
namespace Go.Proofs.YtbfinjiledfpcaaGreat
open Go Go.RowKit
set_option linter.unusedVariables false
set_option linter.unusedSimpArgs false
def srtB (n : Int) : Bool := n == 0 || n == 1
def Sy.okB (x : Sy) : Bool := zaj x.name && (decide (x.args.length ≤ 2) && (srtB x.sort && x.args.all srtB))
def nmLt (a b : ByteArray) : Bool := Op.bytesLess a.toList b.toList
def Sg.okAt (s : Sg) (k : Nat) : Bool :=
 match s.syms[k]? with
 | none => true
 | some x => x.okB && (match k with | 0 => true | j + 1 => (match s.syms[j]? with | none => true | some y => nmLt y.name x.name))
def Sg.okB (s : Sg) : Bool := (List.range s.syms.length).all s.okAt && decide (s.syms.length ≤ 7)
theorem Sg.okB_no {s : Sg} {k : Nat} (hk : k < s.syms.length) (h : s.okAt k = false) : s.okB = false := by
 have : (List.range s.syms.length).all s.okAt = false := by rw [List.all_eq_false]; exact ⟨k, by simpa using hk, by simp [h]⟩
 simp [Sg.okB, this]
theorem Sg.okB_all {s : Sg} {k : Nat} (hk : s.syms.length ≤ k) (h : ∀ j, j < k → s.okAt j = true) : s.okB = decide (s.syms.length ≤ 7) := by
 have : (List.range s.syms.length).all s.okAt = true := by rw [List.all_eq_true]; intro j hj; exact h j (by have := List.mem_range.1 hj; omega)
 simp [Sg.okB, this]
theorem Sg.okAt_bad {s : Sg} {k : Nat} (hk : k < s.syms.length) (h : s.syms[k].okB = false) : s.okAt k = false := by simp [Sg.okAt, List.getElem?_eq_getElem hk, h]
theorem Sg.okAt_zero {s : Sg} (hk : 0 < s.syms.length) (h : s.syms[0].okB = true) : s.okAt 0 = true := by simp [Sg.okAt, List.getElem?_eq_getElem hk, h]
theorem Sg.okAt_succ {s : Sg} {k : Nat} (hk : k + 1 < s.syms.length) (h : s.syms[k + 1].okB = true) : s.okAt (k + 1) = nmLt s.syms[k].name s.syms[k + 1].name := by
 simp [Sg.okAt, List.getElem?_eq_getElem hk, List.getElem?_eq_getElem (show k < s.syms.length by omega), h]
theorem zcG (n : Int) (w : World) : Calls Tryz.prog 126 #[.int .i64 n] w fun e w' => e = .returned (.bool (srtB n)) ∧ w = w' := by
 cases h0 : (n == 0) <;> cases h1 : (n == 1)
 all_goals
  have HF : Hid (srtB n = ((n == 0) || (n == 1))) := Lib.hid rfl
  go_enter Tryz.func126, Tryz.ntmps126
  go_wp2
  go_ret
  exact ⟨retB (by rw [HF.out, h0, h1]; rfl), rfl⟩
theorem zao (n : Int) (w : World) : Calls Tryz.prog 100 #[.int .i64 n] w fun e w' => e = .returned (.bool (srtB n)) ∧ w = w' := by
 cases h0 : (n == 0) <;> cases h1 : (n == 1)
 all_goals
  have HF : Hid (srtB n = ((n == 0) || (n == 1))) := Lib.hid rfl
  go_enter Tryz.func100, Tryz.ntmps100
  go_wp2
  go_ret
  exact ⟨retB (by rw [HF.out, h0, h1]; rfl), rfl⟩
theorem zdZ (n : Int) (w : World) : Calls Tryz.prog 128 #[.int .i64 n] w fun e w' => e = .returned (.bool (!srtB n)) ∧ w = w' := by
 go_enter Tryz.func128, Tryz.ntmps128
 go_wp2_with (go_at_call 126; refine (zcG _ _).mono ?_; rintro e w' ⟨rfl, rfl⟩)
 go_ret
 exact ⟨rfl, rfl⟩
def IdxOut (ok : Bool) (n : Nat) (w : World) (e : Ending) (w' : World) : Prop := ∃ i : Int, e = .returned (.int .i64 i) ∧ ((ok = true ∧ i = -1) ∨ (ok = false ∧ 0 ≤ i ∧ i < n)) ∧ w = w'
theorem zbf {p : Int → Bool} {xs : List Int} {k : Nat} (hk : k < xs.length) (h : (xs.take k).all p = true) (h' : p xs[k] = true) : (xs.take (k + 1)).all p = true := by
 rw [zfi hk, List.all_append, h]; simp [h']
theorem zcb {p : Int → Bool} {xs : List Int} {k : Nat} (hk : k < xs.length) (h' : p xs[k] = false) : xs.all p = false := by
 rw [List.all_eq_false]; exact ⟨xs[k], zfk hk, by simp [h']⟩
theorem zcu (xs : List Int) (v : Value) (f : List Nat) (w : World) (hv : Rd w (.sl (xs.map zm)) v f) :
  Calls Tryz.prog 143 #[v, .func (.func 128) #[] #[]] w (IdxOut (xs.all srtB) xs.length w) := by
 obtain ⟨a, c, rfl, hc1, hc2⟩ := ze hv
 go_enter Tryz.func143, Tryz.ntmps143
 go_wp2_with fail
 go_loop [8] (fun i => ∃ k : Nat, k ≤ xs.length ∧ i = .int .i64 k ∧ Hid ((xs.take k).all srtB = true)) (fun i => xs.length - (intOf i).toNat)
 case atStart => exact ⟨0, Nat.zero_le _, rfl, Lib.hid (by simp)⟩
 case round =>
  obtain ⟨k, hkl, rfl, hall⟩ := hrel
  by_cases hlt : k < xs.length
  ·obtain ⟨b, off, rfl, hbs, _⟩ := zk hv (by omega)
   obtain ⟨d0, _⟩ := zac hv hlt
   go_wp2_with fail
   refine (zdZ _ _).mono ?_
   rintro e w2 ⟨rfl, rfl⟩
   cases he : srtB xs[k]
   ·have HE := Lib.hid (zcb hlt he)
    have he' : (!srtB xs[k]) = true := by rw [he]; rfl
    go_wp2_with fail
    go_ret
    exact ⟨k, rfl, .inr ⟨HE.out, by omega, by omega⟩, rfl⟩
   ·have HE := Lib.hid (zbf hlt hall.out he)
    have he' : (!srtB xs[k]) = false := by rw [he]; rfl
    go_wp2_with fail
    go_round
    case rel => exact ⟨k + 1, by omega, by go_num, HE⟩
    case measure => simp [intOf]; omega
  ·have HE : Hid (xs.all srtB = true) := Lib.hid (by have := hall.out; rwa [List.take_of_length_le (by omega)] at this)
   go_wp2_with fail
   go_ret
   exact ⟨-1, rfl, .inl ⟨HE.out, rfl⟩, rfl⟩
theorem zcv (xs : List Int) (v : Value) (f : List Nat) (w : World) (hv : Rd w (.sl (xs.map zm)) v f) :
  Calls Tryz.prog 127 #[v, .func (.func 128) #[] #[]] w fun e w' => e = .returned (.bool (!xs.all srtB)) ∧ w = w' := by
 obtain ⟨a, c, rfl, hc1, hc2⟩ := ze hv
 go_enter Tryz.func127, Tryz.ntmps127
 go_wp2_with fail
 refine (zcu xs _ f _ hv).mono ?_
 rintro e w' ⟨i, rfl, ⟨hi, rfl⟩ | ⟨hi, h0, h1⟩, rfl⟩
 ·have HI := Lib.hid hi
  clear hi
  go_wp2_with fail
  go_ret
  exact ⟨retB (by rw [HI.out]; rfl), rfl⟩
 ·have HI := Lib.hid hi
  clear hi
  go_wp2_with fail
  go_ret
  exact ⟨retB (by rw [HI.out]; simp; try omega), rfl⟩
theorem zbt (x : Sy) (vs : List Value) (f : List Nat) (w : World) (hv : RdVs w x.cd vs f) :
  Calls Tryz.prog 87 #[.agg vs.toArray] w fun e w' => e = .returned (.bool x.okB) ∧ Below w.heap.size w w' := by
 obtain ⟨a1, c1, f1, rfl, _, m0, m1, m2⟩ := Sy.open hv
 have HB : Hid (x.okB = (zaj x.name && (decide (x.args.length ≤ 2) && (srtB x.sort && x.args.all srtB)))) := Lib.hid rfl
 have hl := zan m1
 go_enter Tryz.func87, Tryz.ntmps87
 go_wp2_with fail
 refine (zbE _ _ m0).mono ?_
 rintro e w' ⟨rfl, rfl⟩
 cases h1 : zaj x.name
 ·go_wp2_with fail
  go_ret
  exact ⟨retB (by rw [HB.out, h1]; rfl), zc _ _⟩
 have H1 := Lib.hid h1
 clear h1
 by_cases h2 : x.args.length ≤ 2
 rotate_left
 ·go_wp2_with fail
  go_ret
  exact ⟨retB (by rw [HB.out, H1.out, decide_eq_false h2]; rfl), zc _ _⟩
 go_wp2_with fail
 refine (zcG _ _).mono ?_
 rintro e w' ⟨rfl, rfl⟩
 cases h3 : srtB x.sort
 ·go_wp2_with fail
  go_ret
  exact ⟨retB (by rw [HB.out, H1.out, decide_eq_true h2, h3]; rfl), zc _ _⟩
 have H3 := Lib.hid h3
 clear h3
 go_wp2_with fail
 refine (zcv x.args _ _ _ (by exact m1.below (zc _ _))).mono ?_
 rintro e w' ⟨rfl, rfl⟩
 go_wp2_with fail
 go_ret
 exact ⟨retB (by rw [HB.out, H1.out, decide_eq_true h2, H3.out]; simp), zc _ _⟩
end Go.Proofs.YtbfinjiledfpcaaGreat
namespace Go.Proofs.YtbfinjiledfpcaaGreat
open Go Go.RowKit
set_option linter.unusedVariables false
set_option linter.unusedSimpArgs false
theorem Tm.wtV_eq (t : Tm) : wtV t.cd = t.name.size + (t.kids.length + wtR (t.kids.map Tm.cd)) := by
 rw [Tm.cd_eq]; simp [wtV, wtC]
theorem zal (e : List CD) (es : List (List CD)) : wtR (e :: es) = wtV e + wtR es := by simp [wtR]
mutual
theorem Tm.size_wtV : ∀ (t : Tm), t.size ≤ 1 + wtV t.cd
 | .mk n ks => by
  have := Tm.sizes_wtR ks
  rw [Tm.wtV_eq]
  simp only [Tm.size, Tm.kids]
  omega
theorem Tm.sizes_wtR : ∀ (ts : List Tm), Tm.sizes ts ≤ ts.length + wtR (ts.map Tm.cd)
 | [] => by simp [Tm.sizes]
 | t :: ts => by
  have h1 := Tm.size_wtV t
  have h2 := Tm.sizes_wtR ts
  simp only [Tm.sizes, List.length_cons, List.map_cons, zal]
  omega
end
end Go.Proofs.YtbfinjiledfpcaaGreat
namespace Go.Proofs.YtbfinjiledfpcaaGreat
open Go Go.RowKit
set_option linter.unusedVariables false
set_option linter.unusedSimpArgs false
theorem Atm.eqv (x y : Atm) : eqV x.cd y.cd = ((x.kind == y.kind) && (eqV x.a.cd y.a.cd && (eqV x.b.cd y.b.cd && (eqR (x.nums.map Tm.cd) (y.nums.map Tm.cd) && (eqR (x.times.map zm) (y.times.map zm) && ((x.bound == y.bound) && (x.strict == y.strict))))))) := by
 unfold Atm.cd
 rw [zbI (by simp)]
 rw [zbI (by simp [Tm.cd_len])]
 rw [zbI (by simp [Tm.cd_len])]
 rw [zbI (by simp)]
 rw [zbI (by simp)]
 rw [zbI (by simp)]
 simp only [eqV_int, eqV_str, eqV_bool, eqV_sl, ← Bool.beq_eq_decide_eq, ← int_beq]
theorem Atm.eqv_kind {x y : Atm} (h : (x.kind == y.kind) = false) : eqV x.cd y.cd = false := by rw [Atm.eqv]; simp [h]
theorem Atm.eqv_a {x y : Atm} (h : eqV x.a.cd y.a.cd = false) : eqV x.cd y.cd = false := by rw [Atm.eqv]; simp [h]
theorem Atm.eqv_b {x y : Atm} (h : eqV x.b.cd y.b.cd = false) : eqV x.cd y.cd = false := by rw [Atm.eqv]; simp [h]
theorem Atm.eqv_nums {x y : Atm} (h : eqR (x.nums.map Tm.cd) (y.nums.map Tm.cd) = false) : eqV x.cd y.cd = false := by rw [Atm.eqv]; simp [h]
theorem Atm.eqv_times {x y : Atm} (h : eqR (x.times.map zm) (y.times.map zm) = false) : eqV x.cd y.cd = false := by rw [Atm.eqv]; simp [h]
theorem Atm.eqv_bound {x y : Atm} (h : (x.bound == y.bound) = false) : eqV x.cd y.cd = false := by rw [Atm.eqv]; simp [h]
theorem Atm.eqv_strict {x y : Atm} (h : (x.strict == y.strict) = false) : eqV x.cd y.cd = false := by rw [Atm.eqv]; simp [h]
theorem zd1 (xs ys : List Int) (v u : Value) (f f' : List Nat) (w : World) (hv : Rd w (.sl (xs.map zm)) v f) (hx : Rd w (.sl (ys.map zm)) u f') :
  Calls Tryz.prog 48 #[v, u] w fun e w' => e = .returned (.bool (eqR (xs.map zm) (ys.map zm))) ∧ Below w.heap.size w w' := by
 obtain ⟨a, c, rfl, hc1, hc2⟩ := ze hv
 obtain ⟨a', c', rfl, hc1', hc2'⟩ := ze hx
 by_cases hl : xs.length = ys.length
 ·have hlb : ((xs.length : Int) != (ys.length : Int)) = false := by rw [hl]; simp
  have hl1 : xs.length ≤ ys.length := by omega
  have hl2 : ys.length ≤ xs.length := by omega
  clear hl
  go_enter Tryz.func48, Tryz.ntmps48
  go_wp2_with fail
  go_loopw [13] (fun i wr => ∃ k : Nat, k ≤ xs.length ∧ i = .int .i64 k ∧ Hid (Alike zm xs ys k) ∧ Below w.heap.size w wr) (fun i _ => xs.length - (intOf i).toNat)
  case atStart => exact ⟨0, Nat.zero_le _, rfl, Lib.hid Alike.zero, Below.refl _ _⟩
  case round =>
   obtain ⟨k, hkl, rfl, hall, hb⟩ := hrel
   have hz := hb.size
   by_cases hlt : k < xs.length
   ·obtain ⟨b, off, rfl, hbs, _⟩ := zk hv (by omega)
    obtain ⟨b', off', rfl, hbs', _⟩ := zk hx (by omega)
    have hlt' : k < ys.length := by omega
    obtain ⟨d0, _⟩ := zac (hv.below hb) hlt
    obtain ⟨d0', _⟩ := zac (hx.below hb) hlt'
    by_cases he : xs[k] = ys[k]
    ·have HE : Hid (eqV (zm xs[k]) (zm ys[k]) = true) := by rw [he]; exact zep _
     have hne : (xs[k] != ys[k]) = false := by rw [he]; simp
     clear he
     go_wp2_with fail
     have q0 := cell_regrown d0
     have q0' := cell_regrown d0'
     refine wp_region_quiet_below (by kernel_rfl) (by kernel_rfl) ?_
     repeat (quiet_step (fail))
     refine wpQuiet_nil ?_
     intro w2 hw2
     obtain ⟨⟨dq, osq⟩, hw2⟩ := hw2
     have hb2 : Below wr.heap.size wr w2 := hw2 ▸ below_regrown wr dq osq
     clear hw2 q0 q0'
     go_wp2_with fail
     go_roundw
     case rel => exact ⟨k + 1, by omega, by go_num, hall.out.succ hlt hlt' HE.out, hb.trans (hb2.mono (by omega))⟩
     case measure => simp [intOf]; omega
    ·have HE : Hid (eqV (zm xs[k]) (zm ys[k]) = false) := Lib.hid (eqV_no (by simpa [zm] using he))
     have hne : (xs[k] != ys[k]) = true := by rw [bne_iff_ne]; exact he
     go_wp2_with fail
     have q0 := cell_regrown d0
     have q0' := cell_regrown d0'
     refine wp_region_quiet_below (by kernel_rfl) (by kernel_rfl) ?_
     repeat (quiet_step (fail))
     refine wpQuiet_nil ?_
     intro w2 hw2
     obtain ⟨⟨dq, osq⟩, hw2⟩ := hw2
     have hb2 : Below wr.heap.size wr w2 := hw2 ▸ below_regrown wr dq osq
     clear hw2 q0 q0'
     go_wp2_with fail
     go_ret
     exact ⟨retB (zca hlt hlt' HE.out).symm, hb.trans (hb2.mono (by omega))⟩
   ·go_wp2_with fail
    go_ret
    exact ⟨retB (hall.out.all (by omega) (by omega)).symm, hb⟩
 ·have hlb : ((xs.length : Int) != (ys.length : Int)) = true := by rw [bne_iff_ne]; omega
  have HF := Lib.hid (zdY (cd := zm) hl)
  clear hl
  go_enter Tryz.func48, Tryz.ntmps48
  go_wp2_with fail
  go_ret
  exact ⟨retB HF.out.symm, Below.refl _ _⟩
end Go.Proofs.YtbfinjiledfpcaaGreat
namespace Go.Proofs.YtbfinjiledfpcaaGreat
open Go Go.RowKit
set_option linter.unusedVariables false
set_option linter.unusedSimpArgs false
end Go.Proofs.YtbfinjiledfpcaaGreat
