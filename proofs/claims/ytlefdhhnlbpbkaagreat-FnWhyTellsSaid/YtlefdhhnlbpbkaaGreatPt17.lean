/- Parts of the proof: WhyP Ever WhyH WhyA2. -/
import Derived.Test.YtlefdhhnlbpbkaaGreatPt10
import Derived.Test.YtlefdhhnlbpbkaaGreatPt16
import Derived.Test.YtlefdhhnlbpbkaaGreatPt6
import Derived.Deep.RegionHeld3
import Derived.BigQuiet
import Derived.BigRegion
import Derived.Test.YtlefdhhnlbpbkaaGreatPt9
section
namespace Go.Proofs.YtlefdhhnlbpbkaaGreat
open Go Go.RowKit
set_option linter.unusedVariables false
set_option linter.unusedSimpArgs false
set_option maxRecDepth 100000
set_option maxHeartbeats 16000000
def zaf (t : Tm) : Bool := t.name.toList == [] && ((t.kids.length : Int) == 0)
/-- What a rule tells of what its parts tell. -/
def zx (es : List Eqn) (r n : Int) (t : Tm) (l : List Eqn) : Option Eqn :=
 if r = 1 then (if n = 0 ∧ l.length = 0 ∧ t.wf = true then some ⟨t, t⟩ else none)
 else if r = 2 then (if l.length = 0 ∧ zaf t = true ∧ 0 ≤ n then es[n.toNat]? else none)
 else if r = 3 then (if n = 0 ∧ zaf t = true then (match l with | [e] => some ⟨e.b, e.a⟩ | _ => none) else none)
 else if r = 4 then (if n = 0 ∧ zaf t = true then (match l with | [e, f] => if e.b.beq f.a = true then some ⟨e.a, f.b⟩ else none | _ => none) else none)
 else if r = 5 then (if n = 0 ∧ 0 < l.length ∧ t.kids.length = 0 ∧ (Tm.mk t.name (l.map Eqn.a)).wf = true ∧ (Tm.mk t.name (l.map Eqn.b)).wf = true then some ⟨.mk t.name (l.map Eqn.a), .mk t.name (l.map Eqn.b)⟩ else none)
 else none
mutual
def Wy.tells (es : List Eqn) : Nat → Wy → Option Eqn
 | d, .mk r n t ks => if d = 0 then none else (Wy.tellsL es (d - 1) ks).bind (zx es r n t)
def Wy.tellsL (es : List Eqn) : Nat → List Wy → Option (List Eqn)
 | _, [] => some []
 | d, k :: ks => (Wy.tells es d k).bind fun e => (Wy.tellsL es d ks).bind fun l => some (e :: l)
end
theorem Wy.tells_eq (es : List Eqn) (d : Nat) (r n : Int) (t : Tm) (ks : List Wy) : Wy.tells es d (.mk r n t ks) = if d = 0 then none else (Wy.tellsL es (d - 1) ks).bind (zx es r n t) := by simp only [Wy.tells]
theorem Wy.tellsL_app (es : List Eqn) (d : Nat) : ∀ (a b : List Wy), Wy.tellsL es d (a ++ b) = (Wy.tellsL es d a).bind fun l => (Wy.tellsL es d b).bind fun m => some (l ++ m)
 | [], b => by simp only [List.nil_append, Wy.tellsL, Option.bind_some]; cases Wy.tellsL es d b <;> rfl
 | k :: a, b => by
  simp only [List.cons_append, Wy.tellsL, Wy.tellsL_app es d a b]
  cases Wy.tells es d k <;> simp
  cases Wy.tellsL es d a <;> simp
  cases Wy.tellsL es d b <;> simp
theorem Wy.tellsL_yes {es : List Eqn} {d : Nat} {ks : List Wy} {k : Nat} (hk : k < ks.length) {l : List Eqn} {e : Eqn} (h : Wy.tellsL es d (ks.take k) = some l) (he : Wy.tells es d ks[k] = some e) : Wy.tellsL es d (ks.take (k + 1)) = some (l ++ [e]) := by
 rw [zeH hk, Wy.tellsL_app, h]; simp [Wy.tellsL, he]
theorem Wy.tellsL_no {es : List Eqn} {d : Nat} {ks : List Wy} {k : Nat} (hk : k < ks.length) {l : List Eqn} (h : Wy.tellsL es d (ks.take k) = some l) (he : Wy.tells es d ks[k] = none) : Wy.tellsL es d ks = none := by
 have h1 : ks = ks.take k ++ ks[k] :: ks.drop (k + 1) := by rw [← List.drop_eq_getElem_cons hk, List.take_append_drop]
 rw [h1, Wy.tellsL_app, h]; simp [Wy.tellsL, he]
theorem Wy.tells_none {es : List Eqn} {d : Nat} {r n : Int} {t : Tm} {ks : List Wy} {l : List Eqn} (h : Wy.tellsL es d ks = some l) (h1 : zx es r n t l = none) : Wy.tells es (d + 1) (.mk r n t ks) = none := by
 rw [Wy.tells_eq, if_neg (by omega), Nat.add_sub_cancel, h]; simp [h1]
theorem Wy.tells_some {es : List Eqn} {d : Nat} {r n : Int} {t : Tm} {ks : List Wy} {l : List Eqn} {e : Eqn} (h : Wy.tellsL es d ks = some l) (h1 : zx es r n t l = some e) : Wy.tells es (d + 1) (.mk r n t ks) = some e := by
 rw [Wy.tells_eq, if_neg (by omega), Nat.add_sub_cancel, h]; simp [h1]
theorem Wy.tells_bad {es : List Eqn} {d : Nat} {r n : Int} {t : Tm} {ks : List Wy} (h : Wy.tellsL es d ks = none) : Wy.tells es (d + 1) (.mk r n t ks) = none := by
 rw [Wy.tells_eq, if_neg (by omega), Nat.add_sub_cancel, h]; rfl
theorem Wy.tells_zero {es : List Eqn} (x : Wy) : Wy.tells es 0 x = none := by cases x; rw [Wy.tells_eq]; rfl
/-- All that is told is small. -/
def Eqn.lit (e : Eqn) : Prop := e.a.size ≤ 12 ∧ e.b.size ≤ 12
theorem zbk {t : Tm} (h : t.wf = true) : t.size ≤ 12 := by unfold Tm.wf at h; simp only [zeO, decide_eq_true_eq] at h; exact h.2
theorem tell1_lit {es : List Eqn} {r n : Int} {t : Tm} {l : List Eqn} {q : Eqn} (hes : ∀ e ∈ es, e.lit) (hl : ∀ e ∈ l, e.lit) (h : zx es r n t l = some q) : q.lit := by
 unfold zx at h
 split at h
 ·split at h
  ·rename_i h1; obtain rfl := Option.some.inj h; exact ⟨zbk h1.2.2, zbk h1.2.2⟩
  ·cases h
 split at h
 ·split at h
  ·exact hes _ (List.mem_of_getElem? h)
  ·cases h
 split at h
 ·split at h
  ·split at h
   ·rename_i e; obtain rfl := Option.some.inj h; exact ⟨(hl e (by simp)).2, (hl e (by simp)).1⟩
   ·cases h
  ·cases h
 split at h
 ·split at h
  ·split at h
   ·rename_i e f
    split at h
    ·obtain rfl := Option.some.inj h; exact ⟨(hl e (by simp)).1, (hl f (by simp)).2⟩
    ·cases h
   ·cases h
  ·cases h
 split at h
 ·split at h
  ·rename_i h1; obtain rfl := Option.some.inj h; exact ⟨zbk h1.2.2.2.1, zbk h1.2.2.2.2⟩
  ·cases h
 ·cases h
mutual
theorem Wy.tells_lit {es : List Eqn} (hes : ∀ e ∈ es, e.lit) : ∀ (d : Nat) (x : Wy) (q : Eqn), Wy.tells es d x = some q → q.lit
 | d, .mk r n t ks, q, h => by
  rw [Wy.tells_eq] at h
  split at h
  ·cases h
  ·obtain ⟨l, h1, h2⟩ := Option.bind_eq_some_iff.1 h
   exact tell1_lit hes (Wy.tellsL_lit hes (d - 1) ks l h1) h2
theorem Wy.tellsL_lit {es : List Eqn} (hes : ∀ e ∈ es, e.lit) : ∀ (d : Nat) (ks : List Wy) (l : List Eqn), Wy.tellsL es d ks = some l → ∀ e ∈ l, e.lit
 | d, [], l, h => by simp [Wy.tellsL] at h; subst h; intro e he; cases he
 | d, k :: ks, l, h => by
  simp only [Wy.tellsL, Option.bind_eq_some_iff] at h
  obtain ⟨e, h1, m, h2, h3⟩ := h
  obtain rfl := Option.some.inj h3
  intro y hy
  rcases zeM.1 hy with rfl | hy
  ·exact Wy.tells_lit hes d k _ h1
  ·exact Wy.tellsL_lit hes d ks m h2 y hy
end
/-- No reason in it has too many parts. -/
inductive Wy.thin : Wy → Prop where
 | mk (r n : Int) (t : Tm) (ks : List Wy) (ht : t.size ≤ 1000000000) (h : ks.length ≤ 1048576) (hk : ∀ y ∈ ks, Wy.thin y) : Wy.thin (.mk r n t ks)
theorem Wy.thin_kids {x : Wy} (h : x.thin) : x.kids.length ≤ 1048576 ∧ ∀ y ∈ x.kids, y.thin := by cases h with | mk r n t ks ht h hk => exact ⟨h, hk⟩
theorem Wy.thin_size {x : Wy} (h : x.thin) : x.t.size ≤ 1000000000 := by cases h with | mk r n t ks ht h hk => exact ht
theorem zah {w : World} {b b' j j' : Nat} {v u : Value} (hne : b ≠ b') (h : w.cell? ⟨b, j, none⟩ = some v) : (w.setCell ⟨b', j', none⟩ u).cell? ⟨b, j, none⟩ = some v := (World.cell?_setCell_other w _ _ u (by intro e; simp only [Addr.mk.injEq] at e; exact hne e.1.symm)).trans h
/-- What WhyTells gives. -/
def whyT (s : Sg) (es : List Eqn) (x : Wy) : Option Eqn := if eqsB s es = true then (match Wy.tells es 400 x with | none => none | some q => if eqsB s [q] = true then some q else none) else none
section
variable {P : Program} {ops : Array Oper} {Q : Exit → Act → World → Prop} {F : World → Prop}
/-- Whatever comes up next; F holds behind it. -/
def Ever (P : Program) (ops : Array Oper) (Q : Exit → Act → World → Prop) (F : World → Prop) : Nat → Array Bool → Act → World → Prop
 | 0, up, a, w => Region.ready .any ops up = [] ∧ Q .normal a w
 | n + 1, up, a, w => (Region.ready .any ops up = [] → Q .normal a w) ∧
   ∀ i, i ∈ Region.ready .any ops up → wpOp P ops Q i (fun b u => F u ∧ Ever P ops Q F n (up.setIfInBounds i true) b u) a w
theorem Ever.drop : ∀ (n : Nat) (up : Array Bool) (a : Act) (w : World), Ever P ops Q F n up a w → wpAny P .any ops Q n up a w
 | 0, _, _, _, h => h
 | n + 1, _, _, _, h => ⟨h.1, fun i hi => wpOp_mono (fun b u k => Ever.drop n _ b u k.2) (h.2 i hi)⟩
theorem Ever.start {id : Nat} {a : Act} {w : World} (hm : P.follows .mixedOrders = true) (h : Ever P ops Q F ops.size (Array.replicate ops.size false) a w.drew) : (Code.region id ops true).wp P Q a w :=
 wp_region_any hm (Ever.drop _ _ _ _ h)
theorem Ever.done {up : Array Bool} {a : Act} {w : World} (hr : Region.ready .any ops up = []) (h : Q .normal a w) : ∀ n, Ever P ops Q F n up a w
 | 0 => ⟨hr, h⟩
 | _ + 1 => ⟨fun _ => h, by rw [hr]; simp⟩
/-- One alone may come up. -/
theorem Ever.one {i : Nat} {o : Oper} {n : Nat} {up : Array Bool} {a : Act} {w : World} (hr : Region.ready .any ops up = [i]) (ho : ops[i]? = some o)
  (h : ∀ K' : Act → World → Prop, Hid (∀ b u, F u → Ever P ops Q F n (up.setIfInBounds i true) b u → K' b u) → if Region.wanted o (yielded ops a.tmps) = true then Oper.wp P o a w K' Q else K' (a.put o.dst undef) w) :
  Ever P ops Q F (n + 1) up a w := by
 refine ⟨fun h0 => (by rw [hr] at h0; cases h0), fun j hj => ?_⟩
 rw [hr] at hj
 obtain rfl := List.mem_singleton.1 hj
 exact wpOp_step ho fun K' hK => h K' (Lib.hid fun b u h1 h2 => hK b u ⟨h1, h2⟩)
/-- One that only reads is taken first. -/
theorem Ever.early {i : Nat} {oi : Oper} {v : Value} (hi : ops[i]? = some oi) (hsel : ∀ (j : Nat) (o : Oper) cs b, ops[j]? = some o → o.op ≠ .select cs b)
  (hQ : ∀ c a w, Q (.panic c) (a.put oi.dst v) w → Q (.panic c) a w) :
  ∀ (n : Nat) (up : Array Bool) (a : Act) (w : World), (∀ j oj, ops[j]? = some oj → j ≠ i → up.getD j true = false → (∀ e ∈ oj.after, Region.binds .any e = true → e.on ≠ i) → oi.apart ops oj = true) →
   i ∈ Region.ready .any ops up → YieldsIf P ops F oi v a → F w →
   Ever P ops Q F n (up.setIfInBounds i true) (a.put oi.dst v) w → Ever P ops Q F (n + 1) up a w
 | 0, up, a, w, _, hr, hy, hF, H => by
  refine ⟨fun h => (by rw [h] at hr; cases hr), fun j hj => ?_⟩
  by_cases hji : j = i
  ·subst hji; exact hy.wpOp hi hF ⟨hF, H⟩
  ·have := ready_mono hj hji
   rw [H.1] at this; cases this
 | n + 1, up, a, w, hfree, hr, hy, hF, H => by
  refine ⟨fun h => (by rw [h] at hr; cases hr), fun j hj => ?_⟩
  by_cases hji : j = i
  ·subst hji; exact hy.wpOp hi hF ⟨hF, H⟩
  obtain ⟨hjun, oj, hoj, hall⟩ := mem_ready.1 hj
  have hiun : up.getD i true = false := (mem_ready.1 hr).1
  have hnot : ∀ e ∈ oj.after, Region.binds .any e = true → e.on ≠ i := fun e he hb heq => by
   have h1 := hall e he hb
   rw [heq] at h1
   rcases Nat.lt_or_ge i up.size with h' | h'
   ·simp [h'] at hiun h1; rw [hiun] at h1; cases h1
   ·simp [Array.getElem?_eq_none h'] at h1
  refine wpOp_mono (fun b u k => ?_) (wpOp_putIf hoj (hfree j oj hoj hji hjun hnot) (fun cs b => hsel i oi cs b hi) (fun cs b => hsel j oj cs b hoj) hQ hy (H.2 j (ready_mono hj hji)))
  obtain ⟨k1, k2, k3⟩ := k
  refine ⟨k2, Ever.early hi hsel hQ n _ b u (fun m om hm hmi hun hno => hfree m om hm hmi ?_ hno) (ready_mono hr (Ne.symm hji)) k1 k2 ?_⟩
  ·by_cases hjm : j = m
   ·subst hjm; exact hjun
   ·rwa [getD_set_ne true hjm] at hun
  ·rw [Array.setIfInBounds_comm _ _ hji]; exact k3
theorem Ever.take {i : Nat} {oi : Oper} {v : Value} {n : Nat} {up : Array Bool} {a : Act} {w : World} (hi : ops[i]? = some oi) (hs : Region.noSelect ops = true) (hf : Region.free .any ops up i = true) (hr : (Region.ready .any ops up).contains i = true)
  (hQ : ∀ c a w, Q (.panic c) (a.put oi.dst v) w → Q (.panic c) a w) (hy : YieldsIf P ops F oi v a) (hF : F w)
  (h : Ever P ops Q F n (up.setIfInBounds i true) (a.put oi.dst v) w) : Ever P ops Q F (n + 1) up a w :=
 Ever.early hi (Region.noSelect_spec hs) hQ n up a w (Region.free_spec hi hf) (by simpa using hr) hy hF h
end
/-- What comes back: an equation, read where one is told, and whether one is. -/
def zz (lo : Nat) (o : Option Eqn) (w : World) (e : Ending) (w' : World) : Prop := ∃ (n0 : ByteArray) (a1 : Option Addr) (m1 c1 : Nat) (n2 : ByteArray) (a3 : Option Addr) (m3 c3 : Nat), e = .returned (.tuple #[.agg #[.string n0, .slice a1 m1 c1, .string n2, .slice a3 m3 c3], .bool o.isSome]) ∧
 (∀ q, o = some q → ∃ f, RdVs w' q.cd [.string n0, .slice a1 m1 c1, .string n2, .slice a3 m3 c3] f ∧ ∀ b ∈ f, b < lo ∨ w.heap.size ≤ b) ∧ Below w.heap.size w w'
theorem zaK (t : Tm) (v : Value) (w : World) (hv : TmR w t v) : Calls Tryz.prog 52 #[v] w fun e w' => e = .returned (.bool (zaf t)) ∧ Below w.heap.size w w' := by
 obtain ⟨kv, rfl, hs, hk⟩ := hv
 obtain ⟨a, cap, rfl, hc1, hc2⟩ := hk.form
 have HB : Hid (zaf t = (t.name.toList == [] && ((t.kids.length : Int) == 0))) := Lib.hid rfl
 cases h1 : (t.name.toList == [])
 all_goals
  have H1 := Lib.hid h1
  go_enter Tryz.func52, Tryz.ntmps52
  go_wp2_with fail
  go_ret
  exact ⟨retB (by rw [HB.out, H1.out]; first | rfl | simp | (simp [Bool.beq_eq_decide_eq])), zb _ _⟩
theorem zl {w w' : World} {lo : Nat} {o : Option Eqn} (h : o = none) (hb : Below w.heap.size w w') : zz lo o w (.returned (.tuple #[.agg #[.string ⟨#[]⟩, .slice none 0 0, .string ⟨#[]⟩, .slice none 0 0], .bool false])) w' := by
 subst h; exact ⟨_, _, _, _, _, _, _, _, rfl, (fun q hq => by cases hq), hb⟩
theorem zS {w w' : World} {lo : Nat} {o : Option Eqn} {q : Eqn} {b : Bool} {n0 n2 : ByteArray} {a1 a3 : Option Addr} {m1 c1 m3 c3 : Nat} {f : List Nat} (h : o = if b = true then some q else none) (hr : RdVs w' q.cd [.string n0, .slice a1 m1 c1, .string n2, .slice a3 m3 c3] f) (hf : ∀ b ∈ f, b < lo ∨ w.heap.size ≤ b) (hb : Below w.heap.size w w') :
  zz lo o w (.returned (.tuple #[.agg #[.string n0, .slice a1 m1 c1, .string n2, .slice a3 m3 c3], .bool b])) w' := by
 subst h
 refine ⟨_, _, _, _, _, _, _, _, by cases b <;> rfl, (fun p hp => ?_), hb⟩
 cases b
 ·simp at hp
 ·simp at hp; subst hp; exact ⟨f, hr, hf⟩
theorem zaZ {w : World} {r : Nat} {v0 v1 v2 v3 : Value} (b : Nat) (h : b ≠ r) : ((((w.setCell ⟨r, 0, none⟩ v0).setCell ⟨r, 1, none⟩ v1).setCell ⟨r, 2, none⟩ v2).setCell ⟨r, 3, none⟩ v3).heap[b]? = w.heap[b]? :=
 (Below.heap_setCell _ _ _ _ h).trans ((Below.heap_setCell _ _ _ _ h).trans ((Below.heap_setCell _ _ _ _ h).trans (Below.heap_setCell _ _ _ _ h)))
theorem so4 {w : World} {r b j : Nat} {v0 v1 v2 v3 u : Value} (h : b ≠ r) (hc : w.cell? ⟨b, j, none⟩ = some u) : ((((w.setCell ⟨r, 0, none⟩ v0).setCell ⟨r, 1, none⟩ v1).setCell ⟨r, 2, none⟩ v2).setCell ⟨r, 3, none⟩ v3).cell? ⟨b, j, none⟩ = some u :=
 zh (zaZ b h) hc
theorem zaC {w : World} {base lo hi e k : Nat} {v : Value} {es : List (List CD)} {fp : List Nat} (h : Own w base e k v es fp) (hf : ∀ b ∈ fp, b < lo ∨ hi ≤ b) (hb : hi ≤ base := by omega) : ∃ fq, Rd w (.sl es) v fq ∧ ∀ b ∈ fq, b < lo ∨ hi ≤ b := by
 obtain ⟨fq, h1, h2⟩ := h.rd
 refine ⟨fq, h1, fun b hb' => ?_⟩
 rcases h2 with ⟨_, _, rfl⟩ | ⟨g, c, _, rfl, _, h3, _⟩
 ·cases hb'
 ·rcases zeM.1 hb' with rfl | h4
  ·right; omega
  ·exact hf b h4
theorem wf_name {n : ByteArray} {ks : List Tm} (h : zai n = false) : (Tm.mk n ks).wf = false := by
 unfold Tm.wf
 rw [Tm.shape_eq]
 simp [Tm.name, h]
theorem zcL {w : World} {n : ByteArray} {l : List Eqn} {ga ja : Option Addr} {gc jc : Nat} {fra frb : List Nat} (m2 : n.size ≤ maxLen) (h1 : Rd w (.sl ((l.map Eqn.a).map Tm.cd)) (.slice ga l.length gc) fra) (h2 : Rd w (.sl ((l.map Eqn.b).map Tm.cd)) (.slice ja l.length jc) frb) :
  RdVs w (Eqn.mk (.mk n (l.map Eqn.a)) (.mk n (l.map Eqn.b))).cd [.string n, .slice ga l.length gc, .string n, .slice ja l.length jc] (fra ++ frb) := by
 have e1 : (Eqn.mk (.mk n (l.map Eqn.a)) (.mk n (l.map Eqn.b))).a.kids.length = l.length := by simp [Tm.kids]
 have e2 : (Eqn.mk (.mk n (l.map Eqn.a)) (.mk n (l.map Eqn.b))).b.kids.length = l.length := by simp [Tm.kids]
 have h := Eqn.close (x := ⟨.mk n (l.map Eqn.a), .mk n (l.map Eqn.b)⟩) (a1 := ga) (c1 := gc) (f1 := fra) (a3 := ja) (c3 := jc) (f3 := frb) m2 (by rw [e1]; exact h1) m2 (by rw [e2]; exact h2)
 rw [e1, e2] at h
 exact h
theorem tells_c2 (es : List Eqn) (ev : Value) (ef : List Nat) (lo : Nat) (hel : es.length ≤ 1048576) (helo : ∀ b ∈ ef, b < lo) (n : Nat) (ih : ∀ (x : Wy) (vs : List Value) (xf : List Nat) (d : Nat) (g : Int) (w : World), ndV x.cd ≤ n → x.thin → g + d = 401 → d ≤ 400 → lo ≤ w.heap.size → (∀ b ∈ xf, b < lo) → RdVs w x.cd vs xf → Rd w (.sl (es.map Eqn.cd)) ev ef →
  Calls Tryz.prog 25 #[.agg vs.toArray, ev, .int .i64 g] w (zz lo (Wy.tells es d x) w)) :
  ∀ (x : Wy) (vs : List Value) (xf : List Nat) (d : Nat) (g : Int) (w : World), ndV x.cd ≤ (n + 1) → x.thin → x.rule = 2 → g + d = 401 → d ≤ 400 → lo ≤ w.heap.size → (∀ b ∈ xf, b < lo) → RdVs w x.cd vs xf → Rd w (.sl (es.map Eqn.cd)) ev ef →
  Calls Tryz.prog 25 #[.agg vs.toArray, ev, .int .i64 g] w (zz lo (Wy.tells es d x) w) := by
 intro x vs xf d g w hn hbig hru hgd hd hlo hxlo hv hx
 obtain ⟨a3, c3, f3, a4, c4, f4, rfl, rfl, m0, m1, m2, m3, m4⟩ := Wy.open hv
 obtain ⟨ea, ec, rfl, hec1, hec2⟩ := zc hx
 have hnk : ∀ y ∈ x.kids, ndV y.cd ≤ n := fun y hy => by have := Wy.kid_nd hy; omega
 have hkw : x.kids.length ≤ 1048576 ∧ ∀ y ∈ x.kids, y.thin := Wy.thin_kids hbig
 obtain ⟨r, nn, t, ks⟩ := x
 simp only [Wy.rule] at hru
 subst hru
 simp only [Wy.rule, Wy.n, Wy.t, Wy.kids] at m0 m1 m2 m3 m4 hnk hkw hv hxlo ⊢
 have HNK := Lib.hid hnk
 have HKW := Lib.hid hkw.2
 have hkl1 := hkw.1
 have hg1 : 1 ≤ g := by omega
 have hg2 : g ≤ 401 := by omega
 have hf3 : ∀ b ∈ f3, b < lo := fun b hb => hxlo b (by simp [hb])
 have hf4 : ∀ b ∈ f4, b < lo := fun b hb => hxlo b (by simp [hb])
 have IH := Lib.hid ih
 clear ih hnk hkw hbig hn hv hxlo
 have hX := (Bx.new w [.int .i64 2, .int .i64 nn, .string t.name, .slice a3 t.kids.length c3, .slice a4 ks.length c4] 32).alloc (.cells #[.string ⟨#[]⟩, .slice none 0 0, .string ⟨#[]⟩, .slice none 0 0] 36)
 have hR := Bx.new (w.alloc (.cells #[.int .i64 2, .int .i64 nn, .string t.name, .slice a3 t.kids.length c3, .slice a4 ks.length c4] 32)) [.string ⟨#[]⟩, .slice none 0 0, .string ⟨#[]⟩, .slice none 0 0] 36
 rw [World.size_alloc] at hR
 have hB : Below w.heap.size w ((w.alloc (.cells #[.int .i64 2, .int .i64 nn, .string t.name, .slice a3 t.kids.length c3, .slice a4 ks.length c4] 32)).alloc (.cells #[.string ⟨#[]⟩, .slice none 0 0, .string ⟨#[]⟩, .slice none 0 0] 36)) := ((Below.refl _ _).alloc (Nat.le_refl _) _).alloc (by simp) _
 have hW1 : ((w.alloc (.cells #[.int .i64 2, .int .i64 nn, .string t.name, .slice a3 t.kids.length c3, .slice a4 ks.length c4] 32)).alloc (.cells #[.string ⟨#[]⟩, .slice none 0 0, .string ⟨#[]⟩, .slice none 0 0] 36)).heap.size ≤ w.heap.size + 1 + 1 := by simp
 go_enter Tryz.func25, Tryz.ntmps25
 go_upto_region 1 with fail
 generalize (w.alloc (.cells #[.int .i64 2, .int .i64 nn, .string t.name, .slice a3 t.kids.length c3, .slice a4 ks.length c4] 32)).alloc (.cells #[.string ⟨#[]⟩, .slice none 0 0, .string ⟨#[]⟩, .slice none 0 0] 36) = W at *
 cases d with
 | zero =>
  have hdd : decide ((400 : Int) < g) = true := decide_eq_true (by omega)
  have HNO : Hid (Wy.tells es 0 (.mk 2 nn t ks) = none) := Lib.hid (Wy.tells_zero _)
  have r0 := hR.2.1 0 _ rfl; have zz0 := hR.2.2 0
  have r1 := hR.2.1 1 _ rfl; have zz1 := hR.2.2 1
  have r2 := hR.2.1 2 _ rfl; have zz2 := hR.2.2 2
  have r3 := hR.2.1 3 _ rfl; have zz3 := hR.2.2 3
  have gR := (((hR.put (k := 0) (by simp) (.string ⟨#[]⟩)).put (k := 1) (by simp) (.slice none 0 0)).put (k := 2) (by simp) (.string ⟨#[]⟩)).put (k := 3) (by simp) (.slice none 0 0)
  simp only [zeB, zeC] at gR
  have s0 := gR.2.1 0 _ rfl; have s1 := gR.2.1 1 _ rfl; have s2 := gR.2.1 2 _ rfl; have s3 := gR.2.1 3 _ rfl
  go_wp2_with fail
  refine bodyPost_ret (v := .tuple #[.agg #[.string ⟨#[]⟩, .slice none 0 0, .string ⟨#[]⟩, .slice none 0 0], .bool false]) (by simp [results, Tryz.results25, go_sem, s0, s1, s2, s3]) rfl ?_
  exact zl HNO.out ((((hB.setCell (by simp) _).setCell (by simp) _).setCell (by simp) _).setCell (by simp) _)
 | succ d =>
 have hdd : decide ((400 : Int) < g) = false := decide_eq_false (by omega)
 have x3 := hX.2.1 3 _ rfl; have x4 := hX.2.1 4 _ rfl
 go_wp2_with fail
 go_loopw [8, 22] (fun kv iv wr => ∃ (k : Nat) (l : List Eqn) (kf : List Nat), k ≤ ks.length ∧ iv = .int .i64 k ∧ Hid (Wy.tellsL es d (ks.take k) = some l) ∧ l.length ≤ k ∧ k ≤ l.length ∧ Own wr (w.heap.size + 1 + 1) 36 4 kv (l.map Eqn.cd) kf ∧ (∀ b ∈ kf, b < lo ∨ w.heap.size + 1 + 1 ≤ b) ∧ w.heap.size + 1 + 1 ≤ wr.heap.size ∧ Below (w.heap.size + 1 + 1) W wr) (fun _ iv _ => ks.length - (intOf iv).toNat)
 case atStart => exact ⟨0, [], [], Nat.zero_le _, rfl, Lib.hid (by simp [Wy.tellsL]), Nat.le_refl _, Nat.le_refl _, Own.nil _ _ _ _, by simp, hR.1, Below.refl _ _⟩
 case round =>
  obtain ⟨k, l, kf, hkl, rfl, HL, hl1, hl2, hown, hkf, hz, hb⟩ := hrel
  clear x3 x4
  replace hX := hX.below (hb.mono hW1)
  replace hR := hR.below (hb.mono hW1)
  replace hB := hB.trans (hb.mono (by omega))
  by_cases hlt : k < ks.length
  ·obtain ⟨b, off, rfl, hbs, hbm⟩ := zo m4 (by omega)
   obtain ⟨ka3, kc3, kf3, ka4, kc4, kf4, d0, d1, d2, d3, d4, n0, n1, n2, n3, n4, hsub⟩ := Wy.at (m4.below hB) hlt
   have hkr := Wy.close n0 n1 n2 n3 n4
   have hklo : ∀ y ∈ kf3 ++ kf4, y < lo := fun y hy => hf4 y (hsub y hy)
   clear n0 n1 n2 n3 n4 hsub
   have hba := zb wr (.cells #[.int .i64 ks[k].rule, .int .i64 ks[k].n, .string ks[k].t.name, .slice ka3 ks[k].t.kids.length kc3, .slice ka4 ks[k].kids.length kc4] 32)
   replace hX := hX.below hba
   replace hR := hR.below hba
   have hB1 := hB.trans (hba.mono hB.size)
   have hown1 := hown.below hba
   have hK := Bx.new wr [.int .i64 ks[k].rule, .int .i64 ks[k].n, .string ks[k].t.name, .slice ka3 ks[k].t.kids.length kc3, .slice ka4 ks[k].kids.length kc4] 32
   have hkr1 := hkr.below hba
   have hx1 := hx.below hB1
   have hz1 : wr.heap.size + 1 ≤ (wr.alloc (.cells #[.int .i64 ks[k].rule, .int .i64 ks[k].n, .string ks[k].t.name, .slice ka3 ks[k].t.kids.length kc3, .slice ka4 ks[k].kids.length kc4] 32)).heap.size := by simp
   have hb1 := hb.trans (hba.mono hz)
   obtain ⟨BK, hBK⟩ : ∃ B, B = wr.heap.size := ⟨_, rfl⟩
   rw [← hBK] at hK hz1
   go_upto_region 7 with fail
   rw [← hBK]
   have hBK1 : wr.heap.size ≤ BK := by omega
   clear hba hB hkr d0 d1 d2 d3 d4 hBK
   generalize wr.alloc (.cells #[.int .i64 ks[k].rule, .int .i64 ks[k].n, .string ks[k].t.name, .slice ka3 ks[k].t.kids.length kc3, .slice ka4 ks[k].kids.length kc4] 32) = w1 at *
   have k0 := hK.2.1 0 _ rfl; have k1 := hK.2.1 1 _ rfl; have k2 := hK.2.1 2 _ rfl; have k3 := hK.2.1 3 _ rfl; have k4 := hK.2.1 4 _ rfl
   go_wp2_with fail
   refine (IH.out ks[k] _ _ d (g + 1) _ (HNK.out _ (zeJ hlt)) (HKW.out _ (zeJ hlt)) (by omega) (by omega) (by omega) hklo (by exact hkr1) (by exact hx1)).mono ?_
   rintro e w2 ⟨n0, a1, p1, q1, n2, a5, p3, q3, rfl, hq, hb2⟩
   clear k0 k1 k2 k3 k4 hK hkr1 hx1
   obtain ⟨o, ho⟩ : ∃ o, o = Wy.tells es d ks[k] := ⟨_, rfl⟩
   rw [← ho] at hq ⊢
   have HO := Lib.hid ho
   clear ho
   have hbe := zb w2 (.cells #[.string n0, .slice a1 p1 q1, .string n2, .slice a5 p3 q3] 36)
   replace hX := (hX.below hb2).below hbe
   replace hR := (hR.below hb2).below hbe
   have hb12 := hb2.trans (hbe.mono hb2.size)
   have hB := hB1.trans (hb12.mono hB1.size)
   have hown2 := hown1.below hb12
   have hE := Bx.new w2 [.string n0, .slice a1 p1 q1, .string n2, .slice a5 p3 q3] 36
   have hz2 := hb12.size
   have hbW := hb1.trans (hb12.mono (by omega))
   cases o with
   | none =>
    have HNO := Lib.hid (Wy.tells_bad (r := 2) (n := nn) (t := t) (Wy.tellsL_no hlt HL.out HO.out.symm))
    go_upto_region 9 with fail
    clear hE
    generalize w2.alloc (.cells #[.string n0, .slice a1 p1 q1, .string n2, .slice a5 p3 q3] 36) = U at *
    have r0 := hR.2.1 0 _ rfl; have zz0 := hR.2.2 0
    have r1 := hR.2.1 1 _ rfl; have zz1 := hR.2.2 1
    have r2 := hR.2.1 2 _ rfl; have zz2 := hR.2.2 2
    have r3 := hR.2.1 3 _ rfl; have zz3 := hR.2.2 3
    have gR := (((hR.put (k := 0) (by simp) (.string ⟨#[]⟩)).put (k := 1) (by simp) (.slice none 0 0)).put (k := 2) (by simp) (.string ⟨#[]⟩)).put (k := 3) (by simp) (.slice none 0 0)
    simp only [zeB, zeC] at gR
    have s0 := gR.2.1 0 _ rfl; have s1 := gR.2.1 1 _ rfl; have s2 := gR.2.1 2 _ rfl; have s3 := gR.2.1 3 _ rfl
    go_wp2_with fail
    refine bodyPost_ret (v := .tuple #[.agg #[.string ⟨#[]⟩, .slice none 0 0, .string ⟨#[]⟩, .slice none 0 0], .bool false]) (by simp [results, Tryz.results25, go_sem, s0, s1, s2, s3]) rfl ?_
    exact zl HNO.out ((((hB.setCell (by simp) _).setCell (by simp) _).setCell (by simp) _).setCell (by simp) _)
   | some q =>
    obtain ⟨f, hrq, hfq⟩ := hq q rfl
    have HL2 := Lib.hid (Wy.tellsL_yes hlt HL.out HO.out.symm)
    replace hrq := hrq.below hbe
    go_upto_region 10 with fail
    clear hq hbe hb2
    obtain ⟨BE, hBE⟩ : ∃ B, B = w2.heap.size := ⟨_, rfl⟩
    rw [← hBE] at hE ⊢
    clear hBE
    generalize w2.alloc (.cells #[.string n0, .slice a1 p1 q1, .string n2, .slice a5 p3 q3] 36) = U at *
    have e0 := hE.2.1 0 _ rfl; have e1 := hE.2.1 1 _ rfl; have e2 := hE.2.1 2 _ rfl; have e3 := hE.2.1 3 _ rfl
    have hba := zb U (.cells #[.string n0, .slice a1 p1 q1, .string n2, .slice a5 p3 q3] 36)
    have hown3 := hown2.below hba
    have hrq3 := hrq.below hba
    have hlm : (l.map Eqn.cd).length ≤ 1048576 := by rw [zeN]; omega
    go_wp2_with (at_builtin; refine zp zI rfl _ _ rfl (w.heap.size + 1 + 1) _ _ _ rfl hown3 ⟨U.heap.size, 0, none⟩ 1 1 [q.cd] [.string n0, .slice a1 p1 q1, .string n2, .slice a5 p3 q3] f rfl rfl ?rd ?k ?cells ?na ?bytes ?len ?base ?next)
    case rd => simpa using hrq3
    case k => simp [Eqn.cd_len]
    case cells => exact zn _ _ _
    case na => exact fun y hy e => by have := hown.block e; rcases hfq y hy with h | h <;> omega
    case bytes => first | omega | (simp; omega)
    case len => first | omega | (simp; omega)
    case base => simp; omega
    case next =>
     intro v' w' hown' hg hv' hs'
     go_wp2_with fail
     go_roundw
     case rel => exact ⟨k + 1, l ++ [q], _, by omega, by go_num, HL2, by simp; omega, by simp; omega, by rw [zeL]; simpa using hown', fun y hy => by (rcases zeI.1 hy with h | h; exact hkf y h; rcases hfq y h with h | h <;> omega), by (have := hg.size; simp at this; omega), ze ((hbW.trans (hba.mono (by omega)))) hg (by simp; omega) (fun q hq => by have := (hown2.block hq).1; omega)⟩
     case measure => simp [intOf]; omega
  ·obtain rfl : k = ks.length := by omega
   have HLL : Hid (Wy.tellsL es d ks = some l) := Lib.hid (by have := HL.out; rwa [List.take_length] at this)
   obtain ⟨ka, kc, hkv, hkc1, hkc2⟩ := hown.form
   rw [zeN] at hkv hkc1
   subst hkv
   have ht : TmR wr t (.agg #[.string t.name, .slice a3 t.kids.length c3]) := TmR.mk m2 ⟨f3, m3.below hB⟩
   have hrk := m3.below hB
   obtain ⟨rf, hrow, hrf⟩ := zaC hown hkf
   replace hx := hx.below hB
   have hll : l.length ≤ 1048576 := by omega
   clear HL IH HNK HKW hb hW1 hl1 hl2 hkl m3 m4 hown hkf
   have x0 := hX.2.1 0 _ rfl
   have x1 := hX.2.1 1 _ rfl
   have x2 := hX.2.1 2 _ rfl
   have x3 := hX.2.1 3 _ rfl
   have x4 := hX.2.1 4 _ rfl
   cases hnt : zaf t
   ·have HNO : Hid (Wy.tells es (d + 1) (.mk 2 nn t ks) = none) := Lib.hid (Wy.tells_none HLL.out (by simp [zx, hnt]))
    have HNT := Lib.hid hnt
    clear hnt
    go_wp2_with fail
    refine (zaK t _ _ (by exact ht)).mono ?_
    rintro e u1 ⟨rfl, hbu⟩
    rw [HNT.out]
    replace hX := hX.below hbu
    replace hR := hR.below hbu
    replace ht := ht.below hbu
    replace hrk := hrk.below hbu
    replace hrow := hrow.below hbu
    replace hx := hx.below hbu
    replace hB := hB.trans (hbu.mono hB.size)
    clear hbu x0 x1 x2 x3 x4
    have x0 := hX.2.1 0 _ rfl
    have x1 := hX.2.1 1 _ rfl
    have x2 := hX.2.1 2 _ rfl
    have x3 := hX.2.1 3 _ rfl
    have x4 := hX.2.1 4 _ rfl
    have r0 := hR.2.1 0 _ rfl; have zz0 := hR.2.2 0
    have r1 := hR.2.1 1 _ rfl; have zz1 := hR.2.2 1
    have r2 := hR.2.1 2 _ rfl; have zz2 := hR.2.2 2
    have r3 := hR.2.1 3 _ rfl; have zz3 := hR.2.2 3
    have gR := (((hR.put (k := 0) (by simp) (.string ⟨#[]⟩)).put (k := 1) (by simp) (.slice none 0 0)).put (k := 2) (by simp) (.string ⟨#[]⟩)).put (k := 3) (by simp) (.slice none 0 0)
    simp only [zeB, zeC] at gR
    have s0 := gR.2.1 0 _ rfl; have s1 := gR.2.1 1 _ rfl; have s2 := gR.2.1 2 _ rfl; have s3 := gR.2.1 3 _ rfl
    go_wp2_with fail
    refine bodyPost_ret (v := .tuple #[.agg #[.string ⟨#[]⟩, .slice none 0 0, .string ⟨#[]⟩, .slice none 0 0], .bool false]) (by simp [results, Tryz.results25, go_sem, s0, s1, s2, s3]) rfl ?_
    exact zl HNO.out ((((hB.setCell (by simp) _).setCell (by simp) _).setCell (by simp) _).setCell (by simp) _)
   have HNT := Lib.hid hnt
   clear hnt
   go_wp2_with fail
   refine (zaK t _ _ (by exact ht)).mono ?_
   rintro e u1 ⟨rfl, hbu⟩
   rw [HNT.out]
   replace hX := hX.below hbu
   replace hR := hR.below hbu
   replace ht := ht.below hbu
   replace hrk := hrk.below hbu
   replace hrow := hrow.below hbu
   replace hx := hx.below hbu
   replace hB := hB.trans (hbu.mono hB.size)
   clear hbu x0 x1 x2 x3 x4
   have x0 := hX.2.1 0 _ rfl
   have x1 := hX.2.1 1 _ rfl
   have x2 := hX.2.1 2 _ rfl
   have x3 := hX.2.1 3 _ rfl
   have x4 := hX.2.1 4 _ rfl
   by_cases hl0 : l.length = 0
   rotate_left
   ·have HNO : Hid (Wy.tells es (d + 1) (.mk 2 nn t ks) = none) := Lib.hid (Wy.tells_none HLL.out (by simp [zx, hl0]))
    have n1 : decide ((0 : Int) < (l.length : Int)) = true := decide_eq_true (by omega)
    have r0 := hR.2.1 0 _ rfl; have zz0 := hR.2.2 0
    have r1 := hR.2.1 1 _ rfl; have zz1 := hR.2.2 1
    have r2 := hR.2.1 2 _ rfl; have zz2 := hR.2.2 2
    have r3 := hR.2.1 3 _ rfl; have zz3 := hR.2.2 3
    have gR := (((hR.put (k := 0) (by simp) (.string ⟨#[]⟩)).put (k := 1) (by simp) (.slice none 0 0)).put (k := 2) (by simp) (.string ⟨#[]⟩)).put (k := 3) (by simp) (.slice none 0 0)
    simp only [zeB, zeC] at gR
    have s0 := gR.2.1 0 _ rfl; have s1 := gR.2.1 1 _ rfl; have s2 := gR.2.1 2 _ rfl; have s3 := gR.2.1 3 _ rfl
    go_wp2_with fail
    refine bodyPost_ret (v := .tuple #[.agg #[.string ⟨#[]⟩, .slice none 0 0, .string ⟨#[]⟩, .slice none 0 0], .bool false]) (by simp [results, Tryz.results25, go_sem, s0, s1, s2, s3]) rfl ?_
    exact zl HNO.out ((((hB.setCell (by simp) _).setCell (by simp) _).setCell (by simp) _).setCell (by simp) _)
   have n1 : decide ((0 : Int) < (l.length : Int)) = false := decide_eq_false (by omega)
   go_wp2_with fail
   refine (zbe nn 0 ((es.length : Int) - 1) _).mono ?_
   rintro e u2 ⟨rfl, rfl⟩
   by_cases hi : 0 ≤ nn ∧ nn ≤ (es.length : Int) - 1
   rotate_left
   ·have HNO : Hid (Wy.tells es (d + 1) (.mk 2 nn t ks) = none) := Lib.hid (Wy.tells_none HLL.out (by unfold zx; rw [if_neg (by decide), if_pos rfl]; split; rename_i h; rw [List.getElem?_eq_none]; have := h.2.2; omega; rfl))
    have hbb : (decide (0 ≤ nn) && decide (nn ≤ (es.length : Int) - 1)) = false := by
     rw [Bool.and_eq_false_iff, decide_eq_false_iff_not, decide_eq_false_iff_not]; omega
    rw [hbb]
    have r0 := hR.2.1 0 _ rfl; have zz0 := hR.2.2 0
    have r1 := hR.2.1 1 _ rfl; have zz1 := hR.2.2 1
    have r2 := hR.2.1 2 _ rfl; have zz2 := hR.2.2 2
    have r3 := hR.2.1 3 _ rfl; have zz3 := hR.2.2 3
    have gR := (((hR.put (k := 0) (by simp) (.string ⟨#[]⟩)).put (k := 1) (by simp) (.slice none 0 0)).put (k := 2) (by simp) (.string ⟨#[]⟩)).put (k := 3) (by simp) (.slice none 0 0)
    simp only [zeB, zeC] at gR
    have s0 := gR.2.1 0 _ rfl; have s1 := gR.2.1 1 _ rfl; have s2 := gR.2.1 2 _ rfl; have s3 := gR.2.1 3 _ rfl
    go_wp2_with fail
    refine bodyPost_ret (v := .tuple #[.agg #[.string ⟨#[]⟩, .slice none 0 0, .string ⟨#[]⟩, .slice none 0 0], .bool false]) (by simp [results, Tryz.results25, go_sem, s0, s1, s2, s3]) rfl ?_
    exact zl HNO.out ((((hB.setCell (by simp) _).setCell (by simp) _).setCell (by simp) _).setCell (by simp) _)
   rw [decide_eq_true hi.1, decide_eq_true hi.2]
   obtain ⟨i, rfl⟩ : ∃ i : Nat, nn = i := ⟨nn.toNat, by omega⟩
   have hii : i < es.length := by omega
   have HY : Hid (Wy.tells es (d + 1) (.mk 2 i t ks) = if true = true then some es[i] else none) := Lib.hid (Wy.tells_some HLL.out (by have := HNT.out; simp [zx, hl0, this, hii]))
   obtain ⟨be, oe, rfl, hbe, _⟩ := zo hx (by omega)
   obtain ⟨k1, q1, g1, k3, q3, g3, d0, d1, d2, d3, n0, n2, n3, n4, hsub⟩ := Eqn.at hx hii
   have hie : (i : Int) < (es.length : Int) := by omega
   clear hi hl0
   have r0 := hR.2.1 0 _ rfl; have zz0 := hR.2.2 0
   have r1 := hR.2.1 1 _ rfl; have zz1 := hR.2.2 1
   have r2 := hR.2.1 2 _ rfl; have zz2 := hR.2.2 2
   have r3 := hR.2.1 3 _ rfl; have zz3 := hR.2.2 3
   have gR := (((hR.put (k := 0) (by simp) (.string es[i].a.name)).put (k := 1) (by simp) (.slice k1 es[i].a.kids.length q1)).put (k := 2) (by simp) (.string es[i].b.name)).put (k := 3) (by simp) (.slice k3 es[i].b.kids.length q3)
   simp only [zeB, zeC] at gR
   have s0 := gR.2.1 0 _ rfl; have s1 := gR.2.1 1 _ rfl; have s2 := gR.2.1 2 _ rfl; have s3 := gR.2.1 3 _ rfl
   go_wp2_with fail
   refine bodyPost_ret (v := .tuple #[.agg #[.string es[i].a.name, .slice k1 es[i].a.kids.length q1, .string es[i].b.name, .slice k3 es[i].b.kids.length q3], .bool true]) (by simp [results, Tryz.results25, go_sem, s0, s1, s2, s3]) rfl ?_
   have hq := (Eqn.close (x := es[i]) n0 n2 n3 n4).same _ (fun b hb => zaZ (r := w.heap.size + 1) (v0 := .string es[i].a.name) (v1 := .slice k1 es[i].a.kids.length q1) (v2 := .string es[i].b.name) (v3 := .slice k3 es[i].b.kids.length q3) b (by have := helo b (hsub b hb); omega))
   exact zS (q := es[i]) HY.out hq (fun b hb => by have := helo b (hsub b hb); omega) ((((hB.setCell (by simp) _).setCell (by simp) _).setCell (by simp) _).setCell (by simp) _)
end Go.Proofs.YtlefdhhnlbpbkaaGreat
end
