/- Parts of the proof: ExLib SameLib Sig. -/
import Derived.Lib.QuietBelow
import Derived.Test.YticlgpkjdmcnaaaPa8
import Derived.Test.YticlgpkjdmcnaaaPa4
import Derived.Test.YticlgpkjdmcnaaaPa5
import Derived.Deep.QuietTactic
import Derived.BigQuiet
section
namespace Go.Proofs.Yticlgpkjdmcnaaa
open Go Go.RowKit
set_option linter.unusedVariables false
set_option linter.unusedSimpArgs false
set_option maxRecDepth 100000
set_option maxHeartbeats 16000000
mutual
def wtC : CD → Nat
 | .str s => s.size
 | .sl es => es.length + wtR es
 | _ => 0
def wtR : List (List CD) → Nat
 | [] => 0
 | e :: es => wtV e + wtR es
def wtV : List CD → Nat
 | [] => 0
 | d :: ds => wtC d + wtV ds
end
mutual
def ndC : CD → Nat
 | .sl es => 1 + ndR es
 | _ => 1
def ndR : List (List CD) → Nat
 | [] => 0
 | e :: es => 1 + ndV e + ndR es
def ndV : List CD → Nat
 | [] => 0
 | d :: ds => ndC d + ndV ds
end
theorem zF : ∀ (a b : List CD), wtV (a ++ b) = wtV a + wtV b
 | [], b => by simp [wtV]
 | d :: ds, b => by simp only [List.cons_append, wtV, zF ds b]; omega
theorem zU : ∀ (a b : List (List CD)), wtR (a ++ b) = wtR a + wtR b
 | [], b => by simp [wtR]
 | d :: ds, b => by simp only [List.cons_append, wtR, zU ds b]; omega
theorem zcS : ∀ {es : List (List CD)} {e : List CD}, e ∈ es → ndV e < ndR es
 | [], e, h => by simp at h
 | d :: ds, e, h => by
  simp only [ndR]
  rcases zd9.1 h with rfl | h
  ·omega
  ·have := zcS h; omega
theorem ndV_sl {es : List (List CD)} {ds : List CD} (h : CD.sl es ∈ ds) : ndR es < ndV ds := by
 induction ds with
 | nil => simp at h
 | cons d ds ih =>
  simp only [ndV]
  rcases zd9.1 h with rfl | h
  ·simp only [ndC]; omega
  ·have := ih h; omega
theorem zP {α : Type} (f : α → List CD) (ts : List α) (k : Nat) (h : k < ts.length) : wtR ((ts.map f).take (k + 1)) = wtR ((ts.map f).take k) + wtV (f ts[k]) := by
 rw [zd4 (by simpa using h), zU]; simp [wtR]
theorem zJ {α : Type} (f : α → List CD) (ts : List α) (k : Nat) : wtR ((ts.map f).take k) ≤ wtR (ts.map f) := by
 have := zU ((ts.map f).take k) ((ts.map f).drop k); rw [List.take_append_drop] at this; omega
theorem zdg (ns : List Int) : wtR (ns.map zq) = 0 := by induction ns with
 | nil => rfl
 | cons n ns ih => simp only [List.map_cons, wtR, ih, zq, wtV, wtC]
theorem zaO (n : Int) : wtV [.int n] = 0 := rfl
theorem zav (n : Bool) : wtV [.bool n] = 0 := rfl
theorem zce (n : ByteArray) : wtV [.str n] = n.size := by simp [wtV, wtC]
theorem zao {α : Type} (f : α → List CD) (xs : List α) : wtV [.sl (xs.map f)] = xs.length + wtR (xs.map f) := by simp [wtV, wtC]
theorem zd {w1 w2 : World} {b : Nat} {cs : Array Value} (h : ∀ j, w1.cell? ⟨b, j, none⟩ = cs[j]?) (hl : b < w1.heap.size) (hb : Below w1.heap.size w1 w2) : ∀ j, w2.cell? ⟨b, j, none⟩ = cs[j]? :=
 fun j => (hb.cell (p := ⟨b, j, none⟩) hl).trans (h j)
theorem Fm.kid_nd {x k : Fm} (h : k ∈ x.kids) : ndV k.cd < ndV x.cd := by
 have h1 := zcS (List.mem_map_of_mem (f := Fm.cd) h)
 have h2 : ndR (x.kids.map Fm.cd) < ndV x.cd := ndV_sl (by rw [Fm.cd_eq]; simp)
 omega
mutual
def eqC : CD → CD → Bool
 | .int a, .int b => decide (a = b)
 | .str a, .str b => decide (a = b)
 | .bool a, .bool b => decide (a = b)
 | .sl a, .sl b => eqR a b
 | _, _ => false
def eqR : List (List CD) → List (List CD) → Bool
 | [], [] => true
 | a :: l, b :: l2 => eqV a b && eqR l l2
 | _, _ => false
def eqV : List CD → List CD → Bool
 | [], [] => true
 | a :: l, b :: l2 => eqC a b && eqV l l2
 | _, _ => false
end
mutual
theorem eqC_iff : ∀ (a b : CD), eqC a b = true ↔ a = b
 | .int a, b => by cases b <;> simp [eqC]
 | .str a, b => by cases b <;> simp [eqC]
 | .bool a, b => by cases b <;> simp [eqC]
 | .sl a, b => by cases b <;> simp [eqC, zcf a]
theorem zcf : ∀ (a b : List (List CD)), eqR a b = true ↔ a = b
 | [], b => by cases b <;> simp [eqR]
 | a :: l, b => by cases b <;> simp [eqR, zay a, zcf l]
theorem zay : ∀ (a b : List CD), eqV a b = true ↔ a = b
 | [], b => by cases b <;> simp [eqV]
 | a :: l, b => by cases b <;> simp [eqV, eqC_iff a, zay l]
end
theorem zdh (a : List CD) : eqV a a = true := (zay _ _).2 rfl
theorem eqV_no {a b : List CD} (h : a ≠ b) : eqV a b = false := by rw [Bool.eq_false_iff]; intro h'; exact h ((zay _ _).1 h')
theorem eqR_no {a b : List (List CD)} (h : a ≠ b) : eqR a b = false := by rw [Bool.eq_false_iff]; intro h'; exact h ((zcf _ _).1 h')
theorem eqV_ne {a b : List CD} (h : eqV a b = false) : a ≠ b := by rintro rfl; rw [zdh] at h; simp at h
theorem zaF {α : Type} {cd : α → List CD} {xs ys : List α} (h : xs.length ≠ ys.length) : eqR (xs.map cd) (ys.map cd) = false := eqR_no fun e => h (by have := congrArg List.length e; simpa using this)
/-- All up to a place alike. -/
def Alike {α : Type} (cd : α → List CD) (xs ys : List α) (k : Nat) : Prop := (xs.take k).map cd = (ys.take k).map cd
theorem Alike.zero {α : Type} {cd : α → List CD} {xs ys : List α} : Alike cd xs ys 0 := by simp [Alike]
theorem Alike.succ {α : Type} {cd : α → List CD} {xs ys : List α} {k : Nat} (h : Alike cd xs ys k) (h1 : k < xs.length) (h2 : k < ys.length) (he : eqV (cd xs[k]) (cd ys[k]) = true) : Alike cd xs ys (k + 1) := by
 unfold Alike at *
 rw [zd4 h1, zd4 h2, zd8, zd8, h, List.map_singleton, List.map_singleton, (zay _ _).1 he]
theorem Alike.all {α : Type} {cd : α → List CD} {xs ys : List α} {k : Nat} (h : Alike cd xs ys k) (h1 : xs.length ≤ k) (h2 : ys.length ≤ k) : eqR (xs.map cd) (ys.map cd) = true := by
 unfold Alike at h
 rw [List.take_of_length_le h1, List.take_of_length_le h2] at h
 exact (zcf _ _).2 h
theorem zV {α : Type} {cd : α → List CD} {xs ys : List α} {k : Nat} (h1 : k < xs.length) (h2 : k < ys.length) (he : eqV (cd xs[k]) (cd ys[k]) = false) : eqR (xs.map cd) (ys.map cd) = false := eqR_no fun e => by
 have : (xs.map cd)[k]? = (ys.map cd)[k]? := by rw [e]
 simp [h1, h2] at this
 exact eqV_ne he this
theorem zaz {a a' b b' : List CD} (h : a.length = a'.length) : eqV (a ++ b) (a' ++ b') = (eqV a a' && eqV b b') := by
 rw [Bool.eq_iff_iff, zeb, zay, zay, zay]
 exact ⟨fun e => List.append_inj e h, fun ⟨e, e'⟩ => by rw [e, e']⟩
theorem za9 (a b : Int) : eqV [.int a] [.int b] = decide (a = b) := by simp [eqV, eqC]
theorem zbP (a b : ByteArray) : eqV [.str a] [.str b] = decide (a = b) := by simp [eqV, eqC]
theorem zbg (a b : Bool) : eqV [.bool a] [.bool b] = decide (a = b) := by simp [eqV, eqC]
theorem zb8 (a b : List (List CD)) : eqV [.sl a] [.sl b] = eqR a b := by simp [eqV, eqC]
theorem za {w1 w2 : World} {b j : Nat} {v : Value} (h : w1.cell? ⟨b, j, none⟩ = some v) (hb : Below w1.heap.size w1 w2) : w2.cell? ⟨b, j, none⟩ = some v := (hb.cell (p := ⟨b, j, none⟩) (World.block_lt_of_cell? w1 _ h)).trans h
theorem zap {w : World} {α : Type} {cd : α → List CD} {xs : List α} {v : Value} {f : List Nat} (h : Rd w (.sl (xs.map cd)) v f) : xs.length ≤ 9223372036854775807 := by obtain ⟨a, c, _, h1, h2⟩ := zi h; omega
theorem zbQ (a b : Int) : (a == b) = decide (a = b) := rfl
theorem Tm.cd_mk (n : ByteArray) (ks : List Tm) : (Tm.mk n ks).cd = [.str n, .sl (ks.map Tm.cd)] := by rw [Tm.cd_eq]; rfl
mutual
theorem Tm.beq_cd : ∀ t u : Tm, t.beq u = eqV t.cd u.cd
 | .mk n ks, .mk m js => by
  rw [Tm.cd_mk, Tm.cd_mk]
  simp only [Tm.beq, eqV, eqC, Bool.and_true]
  rw [Tm.beqs_cd ks js]
theorem Tm.beqs_cd : ∀ ts us : List Tm, Tm.beqs ts us = eqR (ts.map Tm.cd) (us.map Tm.cd)
 | [], [] => by simp [Tm.beqs, eqR]
 | [], _ :: _ => by simp [Tm.beqs, eqR]
 | _ :: _, [] => by simp [Tm.beqs, eqR]
 | t :: ts, u :: us => by
  simp only [Tm.beqs, List.map_cons, eqR]
  rw [Tm.beq_cd t u, Tm.beqs_cd ts us]
end
def srtB (n : Int) : Bool := n == 0 || n == 1
def Sy.okB (x : Sy) : Bool := zaC x.name && (decide (x.args.length ≤ 2) && (srtB x.sort && x.args.all srtB))
def nmLt (a b : ByteArray) : Bool := Op.bytesLess a.toList b.toList
def Sg.okAt (s : Sg) (k : Nat) : Bool :=
 match s.syms[k]? with
 | none => true
 | some x => x.okB && (match k with | 0 => true | j + 1 => (match s.syms[j]? with | none => true | some y => nmLt y.name x.name))
def Sg.okB (s : Sg) : Bool := (List.range s.syms.length).all s.okAt && decide (s.syms.length ≤ 7)
theorem Sg.okB_no {s : Sg} {k : Nat} (hk : k < s.syms.length) (h : s.okAt k = false) : s.okB = false := by
 have : (List.range s.syms.length).all s.okAt = false := by rw [List.all_eq_false]; exact ⟨k, by simpa using hk, by simp [h]⟩
 simp [Sg.okB, this]
theorem Sg.okB_all {s : Sg} {k : Nat} (hk : s.syms.length ≤ k) (h : ∀ j, j < k → s.okAt j = true) : s.okB = decide (s.syms.length ≤ 7) := by
 have : (List.range s.syms.length).all s.okAt = true := by rw [List.all_eq_true]; intro j hj; exact h j (by have := List.mem_range.1 hj; omega)
 simp [Sg.okB, this]
theorem Sg.okAt_bad {s : Sg} {k : Nat} (hk : k < s.syms.length) (h : s.syms[k].okB = false) : s.okAt k = false := by simp [Sg.okAt, List.getElem?_eq_getElem hk, h]
theorem Sg.okAt_zero {s : Sg} (hk : 0 < s.syms.length) (h : s.syms[0].okB = true) : s.okAt 0 = true := by simp [Sg.okAt, List.getElem?_eq_getElem hk, h]
theorem Sg.okAt_succ {s : Sg} {k : Nat} (hk : k + 1 < s.syms.length) (h : s.syms[k + 1].okB = true) : s.okAt (k + 1) = nmLt s.syms[k].name s.syms[k + 1].name := by
 simp [Sg.okAt, List.getElem?_eq_getElem hk, List.getElem?_eq_getElem (show k < s.syms.length by omega), h]
theorem zal (n : Int) (w : World) : Calls Try.prog 56 #[.int .i64 n] w fun e w' => e = .returned (.bool (srtB n)) ∧ w = w' := by
 cases h0 : (n == 0) <;> cases h1 : (n == 1)
 all_goals
  have HF : Hid (srtB n = ((n == 0) || (n == 1))) := Lib.hid rfl
  go_enter Try.func56, Try.ntmps56
  go_wp2
  go_ret
  exact ⟨retB (by rw [HF.out, h0, h1]; rfl), rfl⟩
theorem zbR {p : Int → Bool} {xs : List Int} {k : Nat} (hk : k < xs.length) (h : (xs.take k).all p = true) (h' : p xs[k] = true) : (xs.take (k + 1)).all p = true := by
 rw [zd4 hk, List.all_append, h]; simp [h']
theorem zct {p : Int → Bool} {xs : List Int} {k : Nat} (hk : k < xs.length) (h' : p xs[k] = false) : xs.all p = false := by
 rw [List.all_eq_false]; exact ⟨xs[k], zd6 hk, by simp [h']⟩
end Go.Proofs.Yticlgpkjdmcnaaa
end
