/- Parts of the proof: WhyP. -/
import Derived.Test.YtcfpnjcamcpieaaPw14
import Derived.Test.YtcfpnjcamcpieaaPw22
import Derived.Test.YtcfpnjcamcpieaaPw10
section
namespace Go.Proofs.Ytcfpnjcamcpieaa
open Go Go.RowKit
set_option linter.unusedVariables false
set_option linter.unusedSimpArgs false
set_option maxRecDepth 100000
set_option maxHeartbeats 16000000
theorem wtR_mem8 {α : Type} {f : α → List CD} {xs : List α} {x : α} (h : x ∈ xs) : wtV (f x) ≤ wtR (xs.map f) := by
 induction xs with
 | nil => cases h
 | cons y ys ih =>
  simp only [List.map_cons, wtR]
  rcases zda.1 h with rfl | h
  ·omega
  ·have := ih h; omega
def zaa (t : Tm) : Bool := t.name.toList == [] && ((t.kids.length : Int) == 0)
/-- What a rule tells of what its parts tell. -/
def zC (es : List Eqn) (r n : Int) (t : Tm) (l : List Eqn) : Option Eqn :=
 if r = 1 then (if n = 0 ∧ l.length = 0 ∧ t.wf = true then some ⟨t, t⟩ else none)
 else if r = 2 then (if l.length = 0 ∧ zaa t = true ∧ 0 ≤ n then es[n.toNat]? else none)
 else if r = 3 then (if n = 0 ∧ zaa t = true then (match l with | [e] => some ⟨e.b, e.a⟩ | _ => none) else none)
 else if r = 4 then (if n = 0 ∧ zaa t = true then (match l with | [e, f] => if e.b.beq f.a = true then some ⟨e.a, f.b⟩ else none | _ => none) else none)
 else if r = 5 then (if n = 0 ∧ 0 < l.length ∧ t.kids.length = 0 ∧ (Tm.mk t.name (l.map Eqn.a)).wf = true ∧ (Tm.mk t.name (l.map Eqn.b)).wf = true then some ⟨.mk t.name (l.map Eqn.a), .mk t.name (l.map Eqn.b)⟩ else none)
 else none
mutual
def Wy.tells (es : List Eqn) : Nat → Wy → Option Eqn
 | d, .mk r n t ks => if d = 0 then none else (Wy.tellsL es (d - 1) ks).bind (zC es r n t)
def Wy.tellsL (es : List Eqn) : Nat → List Wy → Option (List Eqn)
 | _, [] => some []
 | d, k :: ks => (Wy.tells es d k).bind fun e => (Wy.tellsL es d ks).bind fun l => some (e :: l)
end
theorem Wy.tells_eq (es : List Eqn) (d : Nat) (r n : Int) (t : Tm) (ks : List Wy) : Wy.tells es d (.mk r n t ks) = if d = 0 then none else (Wy.tellsL es (d - 1) ks).bind (zC es r n t) := by simp only [Wy.tells]
theorem Wy.tellsL_app (es : List Eqn) (d : Nat) : ∀ (a b : List Wy), Wy.tellsL es d (a ++ b) = (Wy.tellsL es d a).bind fun l => (Wy.tellsL es d b).bind fun m => some (l ++ m)
 | [], b => by simp only [List.nil_append, Wy.tellsL, Option.bind_some]; cases Wy.tellsL es d b <;> rfl
 | k :: a, b => by
  simp only [List.cons_append, Wy.tellsL, Wy.tellsL_app es d a b]
  cases Wy.tells es d k <;> simp
  cases Wy.tellsL es d a <;> simp
  cases Wy.tellsL es d b <;> simp
theorem Wy.tellsL_yes {es : List Eqn} {d : Nat} {ks : List Wy} {k : Nat} (hk : k < ks.length) {l : List Eqn} {e : Eqn} (h : Wy.tellsL es d (ks.take k) = some l) (he : Wy.tells es d ks[k] = some e) : Wy.tellsL es d (ks.take (k + 1)) = some (l ++ [e]) := by
 rw [zc5 hk, Wy.tellsL_app, h]; simp [Wy.tellsL, he]
theorem Wy.tellsL_no {es : List Eqn} {d : Nat} {ks : List Wy} {k : Nat} (hk : k < ks.length) {l : List Eqn} (h : Wy.tellsL es d (ks.take k) = some l) (he : Wy.tells es d ks[k] = none) : Wy.tellsL es d ks = none := by
 have h1 : ks = ks.take k ++ ks[k] :: ks.drop (k + 1) := by rw [← List.drop_eq_getElem_cons hk, List.take_append_drop]
 rw [h1, Wy.tellsL_app, h]; simp [Wy.tellsL, he]
theorem Wy.tells_none {es : List Eqn} {d : Nat} {r n : Int} {t : Tm} {ks : List Wy} {l : List Eqn} (h : Wy.tellsL es d ks = some l) (h1 : zC es r n t l = none) : Wy.tells es (d + 1) (.mk r n t ks) = none := by
 rw [Wy.tells_eq, if_neg (by omega), Nat.add_sub_cancel, h]; simp [h1]
theorem Wy.tells_some {es : List Eqn} {d : Nat} {r n : Int} {t : Tm} {ks : List Wy} {l : List Eqn} {e : Eqn} (h : Wy.tellsL es d ks = some l) (h1 : zC es r n t l = some e) : Wy.tells es (d + 1) (.mk r n t ks) = some e := by
 rw [Wy.tells_eq, if_neg (by omega), Nat.add_sub_cancel, h]; simp [h1]
theorem Wy.tells_bad {es : List Eqn} {d : Nat} {r n : Int} {t : Tm} {ks : List Wy} (h : Wy.tellsL es d ks = none) : Wy.tells es (d + 1) (.mk r n t ks) = none := by
 rw [Wy.tells_eq, if_neg (by omega), Nat.add_sub_cancel, h]; rfl
theorem Wy.tells_zero {es : List Eqn} (x : Wy) : Wy.tells es 0 x = none := by cases x; rw [Wy.tells_eq]; rfl
/-- All that is told is small. -/
def Eqn.lit (e : Eqn) : Prop := e.a.size ≤ 12 ∧ e.b.size ≤ 12
theorem za6 {t : Tm} (h : t.wf = true) : t.size ≤ 12 := by unfold Tm.wf at h; simp only [zdc, decide_eq_true_eq] at h; exact h.2
theorem tell1_lit {es : List Eqn} {r n : Int} {t : Tm} {l : List Eqn} {q : Eqn} (hes : ∀ e ∈ es, e.lit) (hl : ∀ e ∈ l, e.lit) (h : zC es r n t l = some q) : q.lit := by
 unfold zC at h
 split at h
 ·split at h
  ·rename_i h1; obtain rfl := Option.some.inj h; exact ⟨za6 h1.2.2, za6 h1.2.2⟩
  ·cases h
 split at h
 ·split at h
  ·exact hes _ (List.mem_of_getElem? h)
  ·cases h
 split at h
 ·split at h
  ·split at h
   ·rename_i e; obtain rfl := Option.some.inj h; exact ⟨(hl e (by simp)).2, (hl e (by simp)).1⟩
   ·cases h
  ·cases h
 split at h
 ·split at h
  ·split at h
   ·rename_i e f
    split at h
    ·obtain rfl := Option.some.inj h; exact ⟨(hl e (by simp)).1, (hl f (by simp)).2⟩
    ·cases h
   ·cases h
  ·cases h
 split at h
 ·split at h
  ·rename_i h1; obtain rfl := Option.some.inj h; exact ⟨za6 h1.2.2.2.1, za6 h1.2.2.2.2⟩
  ·cases h
 ·cases h
mutual
theorem Wy.tells_lit {es : List Eqn} (hes : ∀ e ∈ es, e.lit) : ∀ (d : Nat) (x : Wy) (q : Eqn), Wy.tells es d x = some q → q.lit
 | d, .mk r n t ks, q, h => by
  rw [Wy.tells_eq] at h
  split at h
  ·cases h
  ·obtain ⟨l, h1, h2⟩ := Option.bind_eq_some_iff.1 h
   exact tell1_lit hes (Wy.tellsL_lit hes (d - 1) ks l h1) h2
theorem Wy.tellsL_lit {es : List Eqn} (hes : ∀ e ∈ es, e.lit) : ∀ (d : Nat) (ks : List Wy) (l : List Eqn), Wy.tellsL es d ks = some l → ∀ e ∈ l, e.lit
 | d, [], l, h => by simp [Wy.tellsL] at h; subst h; intro e he; cases he
 | d, k :: ks, l, h => by
  simp only [Wy.tellsL, Option.bind_eq_some_iff] at h
  obtain ⟨e, h1, m, h2, h3⟩ := h
  obtain rfl := Option.some.inj h3
  intro y hy
  rcases zda.1 hy with rfl | hy
  ·exact Wy.tells_lit hes d k _ h1
  ·exact Wy.tellsL_lit hes d ks m h2 y hy
end
/-- No reason in it has too many parts. -/
inductive Wy.thin : Wy → Prop where
 | mk (r n : Int) (t : Tm) (ks : List Wy) (ht : t.size ≤ 1000000000) (h : ks.length ≤ 1048576) (hk : ∀ y ∈ ks, Wy.thin y) : Wy.thin (.mk r n t ks)
theorem Wy.thin_kids {x : Wy} (h : x.thin) : x.kids.length ≤ 1048576 ∧ ∀ y ∈ x.kids, y.thin := by cases h with | mk r n t ks ht h hk => exact ⟨h, hk⟩
theorem Wy.thin_size {x : Wy} (h : x.thin) : x.t.size ≤ 1000000000 := by cases h with | mk r n t ks ht h hk => exact ht
theorem Wy.thin_of (n : Nat) : ∀ (x : Wy), ndV x.cd ≤ n → wtV x.cd ≤ 1048576 → x.thin := by
 induction n with
 | zero => intro x hn; have h : 0 < ndV x.cd := (by rw [Wy.cd_eq]; simp [ndV, ndC]; try omega); omega
 | succ n ih =>
  intro x hn hbig
  have h1 : wtV x.cd = wtV x.t.cd + (x.kids.length + wtR (x.kids.map Wy.cd)) := by rw [Wy.cd_eq]; simp only [zH, zal, zay, zdb]; omega
  have h2 : ∀ y ∈ x.kids, y.thin := fun y hy => ih y (by have := Wy.kid_nd hy; omega) (by have := wtR_mem8 (f := Wy.cd) hy; omega)
  obtain ⟨r, nn, t, ks⟩ := x
  have h3 := Tm.size_wtV t
  exact .mk r nn t ks (by simp only [Wy.t] at h1; omega) (by simp only [Wy.kids] at h1; omega) h2
theorem zae {w : World} {b b' j j' : Nat} {v u : Value} (hne : b ≠ b') (h : w.cell? ⟨b, j, none⟩ = some v) : (w.setCell ⟨b', j', none⟩ u).cell? ⟨b, j, none⟩ = some v := (World.cell?_setCell_other w _ _ u (by intro e; simp only [Addr.mk.injEq] at e; exact hne e.1.symm)).trans h
/-- What WhyTells gives. -/
def whyT (s : Sg) (es : List Eqn) (x : Wy) : Option Eqn := if eqsB s es = true then (match Wy.tells es 400 x with | none => none | some q => if eqsB s [q] = true then some q else none) else none
end Go.Proofs.Ytcfpnjcamcpieaa
end
