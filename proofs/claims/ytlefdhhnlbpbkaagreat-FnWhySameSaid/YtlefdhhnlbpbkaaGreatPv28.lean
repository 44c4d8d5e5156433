/- Parts of the proof: WhyP Ever CloN CloM SmP WhPl SmK WhyH. -/
import Derived.Test.YtlefdhhnlbpbkaaGreatPv23
import Derived.Test.YtlefdhhnlbpbkaaGreatPv16
import Derived.Test.YtlefdhhnlbpbkaaGreatPv8
import Derived.Test.YtlefdhhnlbpbkaaGreatPv22
import Derived.Test.YtlefdhhnlbpbkaaGreatPv17
import Derived.Test.YtlefdhhnlbpbkaaGreatPv27
import Derived.Deep.RegionHeld3
import Derived.BigQuiet
import Derived.BigRegion
import Derived.Test.YtlefdhhnlbpbkaaGreatPv7
section
namespace Go.Proofs.YtlefdhhnlbpbkaaGreat
open Go Go.RowKit
set_option linter.unusedVariables false
set_option linter.unusedSimpArgs false
set_option maxRecDepth 100000
set_option maxHeartbeats 16000000
def zcv (t : Tm) : Bool := t.name.toList == [] && ((t.kids.length : Int) == 0)
/-- What a rule tells of what its parts tell. -/
def zM (es : List Eqn) (r n : Int) (t : Tm) (l : List Eqn) : Option Eqn :=
 if r = 1 then (if n = 0 ∧ l.length = 0 ∧ t.wf = true then some ⟨t, t⟩ else none)
 else if r = 2 then (if l.length = 0 ∧ zcv t = true ∧ 0 ≤ n then es[n.toNat]? else none)
 else if r = 3 then (if n = 0 ∧ zcv t = true then (match l with | [e] => some ⟨e.b, e.a⟩ | _ => none) else none)
 else if r = 4 then (if n = 0 ∧ zcv t = true then (match l with | [e, f] => if e.b.beq f.a = true then some ⟨e.a, f.b⟩ else none | _ => none) else none)
 else if r = 5 then (if n = 0 ∧ 0 < l.length ∧ t.kids.length = 0 ∧ (Tm.mk t.name (l.map Eqn.a)).wf = true ∧ (Tm.mk t.name (l.map Eqn.b)).wf = true then some ⟨.mk t.name (l.map Eqn.a), .mk t.name (l.map Eqn.b)⟩ else none)
 else none
mutual
def Wy.tells (es : List Eqn) : Nat → Wy → Option Eqn
 | d, .mk r n t ks => if d = 0 then none else (Wy.tellsL es (d - 1) ks).bind (zM es r n t)
def Wy.tellsL (es : List Eqn) : Nat → List Wy → Option (List Eqn)
 | _, [] => some []
 | d, k :: ks => (Wy.tells es d k).bind fun e => (Wy.tellsL es d ks).bind fun l => some (e :: l)
end
theorem Wy.tells_eq (es : List Eqn) (d : Nat) (r n : Int) (t : Tm) (ks : List Wy) : Wy.tells es d (.mk r n t ks) = if d = 0 then none else (Wy.tellsL es (d - 1) ks).bind (zM es r n t) := by simp only [Wy.tells]
theorem Wy.tellsL_app (es : List Eqn) (d : Nat) : ∀ (a b : List Wy), Wy.tellsL es d (a ++ b) = (Wy.tellsL es d a).bind fun l => (Wy.tellsL es d b).bind fun m => some (l ++ m)
 | [], b => by simp only [List.nil_append, Wy.tellsL, Option.bind_some]; cases Wy.tellsL es d b <;> rfl
 | k :: a, b => by
  simp only [List.cons_append, Wy.tellsL, Wy.tellsL_app es d a b]
  cases Wy.tells es d k <;> simp
  cases Wy.tellsL es d a <;> simp
  cases Wy.tellsL es d b <;> simp
theorem Wy.tellsL_yes {es : List Eqn} {d : Nat} {ks : List Wy} {k : Nat} (hk : k < ks.length) {l : List Eqn} {e : Eqn} (h : Wy.tellsL es d (ks.take k) = some l) (he : Wy.tells es d ks[k] = some e) : Wy.tellsL es d (ks.take (k + 1)) = some (l ++ [e]) := by
 rw [zeq hk, Wy.tellsL_app, h]; simp [Wy.tellsL, he]
theorem Wy.tellsL_no {es : List Eqn} {d : Nat} {ks : List Wy} {k : Nat} (hk : k < ks.length) {l : List Eqn} (h : Wy.tellsL es d (ks.take k) = some l) (he : Wy.tells es d ks[k] = none) : Wy.tellsL es d ks = none := by
 have h1 : ks = ks.take k ++ ks[k] :: ks.drop (k + 1) := by rw [← List.drop_eq_getElem_cons hk, List.take_append_drop]
 rw [h1, Wy.tellsL_app, h]; simp [Wy.tellsL, he]
theorem Wy.tells_none {es : List Eqn} {d : Nat} {r n : Int} {t : Tm} {ks : List Wy} {l : List Eqn} (h : Wy.tellsL es d ks = some l) (h1 : zM es r n t l = none) : Wy.tells es (d + 1) (.mk r n t ks) = none := by
 rw [Wy.tells_eq, if_neg (by omega), Nat.add_sub_cancel, h]; simp [h1]
theorem Wy.tells_some {es : List Eqn} {d : Nat} {r n : Int} {t : Tm} {ks : List Wy} {l : List Eqn} {e : Eqn} (h : Wy.tellsL es d ks = some l) (h1 : zM es r n t l = some e) : Wy.tells es (d + 1) (.mk r n t ks) = some e := by
 rw [Wy.tells_eq, if_neg (by omega), Nat.add_sub_cancel, h]; simp [h1]
theorem Wy.tells_bad {es : List Eqn} {d : Nat} {r n : Int} {t : Tm} {ks : List Wy} (h : Wy.tellsL es d ks = none) : Wy.tells es (d + 1) (.mk r n t ks) = none := by
 rw [Wy.tells_eq, if_neg (by omega), Nat.add_sub_cancel, h]; rfl
theorem Wy.tells_zero {es : List Eqn} (x : Wy) : Wy.tells es 0 x = none := by cases x; rw [Wy.tells_eq]; rfl
/-- All that is told is small. -/
def Eqn.lit (e : Eqn) : Prop := e.a.size ≤ 12 ∧ e.b.size ≤ 12
theorem zba {t : Tm} (h : t.wf = true) : t.size ≤ 12 := by unfold Tm.wf at h; simp only [zex, decide_eq_true_eq] at h; exact h.2
theorem tell1_lit {es : List Eqn} {r n : Int} {t : Tm} {l : List Eqn} {q : Eqn} (hes : ∀ e ∈ es, e.lit) (hl : ∀ e ∈ l, e.lit) (h : zM es r n t l = some q) : q.lit := by
 unfold zM at h
 split at h
 ·split at h
  ·rename_i h1; obtain rfl := Option.some.inj h; exact ⟨zba h1.2.2, zba h1.2.2⟩
  ·cases h
 split at h
 ·split at h
  ·exact hes _ (List.mem_of_getElem? h)
  ·cases h
 split at h
 ·split at h
  ·split at h
   ·rename_i e; obtain rfl := Option.some.inj h; exact ⟨(hl e (by simp)).2, (hl e (by simp)).1⟩
   ·cases h
  ·cases h
 split at h
 ·split at h
  ·split at h
   ·rename_i e f
    split at h
    ·obtain rfl := Option.some.inj h; exact ⟨(hl e (by simp)).1, (hl f (by simp)).2⟩
    ·cases h
   ·cases h
  ·cases h
 split at h
 ·split at h
  ·rename_i h1; obtain rfl := Option.some.inj h; exact ⟨zba h1.2.2.2.1, zba h1.2.2.2.2⟩
  ·cases h
 ·cases h
mutual
theorem Wy.tells_lit {es : List Eqn} (hes : ∀ e ∈ es, e.lit) : ∀ (d : Nat) (x : Wy) (q : Eqn), Wy.tells es d x = some q → q.lit
 | d, .mk r n t ks, q, h => by
  rw [Wy.tells_eq] at h
  split at h
  ·cases h
  ·obtain ⟨l, h1, h2⟩ := Option.bind_eq_some_iff.1 h
   exact tell1_lit hes (Wy.tellsL_lit hes (d - 1) ks l h1) h2
theorem Wy.tellsL_lit {es : List Eqn} (hes : ∀ e ∈ es, e.lit) : ∀ (d : Nat) (ks : List Wy) (l : List Eqn), Wy.tellsL es d ks = some l → ∀ e ∈ l, e.lit
 | d, [], l, h => by simp [Wy.tellsL] at h; subst h; intro e he; cases he
 | d, k :: ks, l, h => by
  simp only [Wy.tellsL, Option.bind_eq_some_iff] at h
  obtain ⟨e, h1, m, h2, h3⟩ := h
  obtain rfl := Option.some.inj h3
  intro y hy
  rcases zev.1 hy with rfl | hy
  ·exact Wy.tells_lit hes d k _ h1
  ·exact Wy.tellsL_lit hes d ks m h2 y hy
end
/-- No reason in it has too many parts. -/
inductive Wy.thin : Wy → Prop where
 | mk (r n : Int) (t : Tm) (ks : List Wy) (ht : t.size ≤ 1000000000) (h : ks.length ≤ 1048576) (hk : ∀ y ∈ ks, Wy.thin y) : Wy.thin (.mk r n t ks)
theorem Wy.thin_kids {x : Wy} (h : x.thin) : x.kids.length ≤ 1048576 ∧ ∀ y ∈ x.kids, y.thin := by cases h with | mk r n t ks ht h hk => exact ⟨h, hk⟩
/-- What WhyTells gives. -/
def whyT (s : Sg) (es : List Eqn) (x : Wy) : Option Eqn := if eqsB s es = true then (match Wy.tells es 400 x with | none => none | some q => if eqsB s [q] = true then some q else none) else none
section
variable {P : Program} {ops : Array Oper} {Q : Exit → Act → World → Prop} {F : World → Prop}
/-- Whatever comes up next; F holds behind it. -/
def Ever (P : Program) (ops : Array Oper) (Q : Exit → Act → World → Prop) (F : World → Prop) : Nat → Array Bool → Act → World → Prop
 | 0, up, a, w => Region.ready .any ops up = [] ∧ Q .normal a w
 | n + 1, up, a, w => (Region.ready .any ops up = [] → Q .normal a w) ∧
   ∀ i, i ∈ Region.ready .any ops up → wpOp P ops Q i (fun b u => F u ∧ Ever P ops Q F n (up.setIfInBounds i true) b u) a w
theorem Ever.drop : ∀ (n : Nat) (up : Array Bool) (a : Act) (w : World), Ever P ops Q F n up a w → wpAny P .any ops Q n up a w
 | 0, _, _, _, h => h
 | n + 1, _, _, _, h => ⟨h.1, fun i hi => wpOp_mono (fun b u k => Ever.drop n _ b u k.2) (h.2 i hi)⟩
theorem Ever.start {id : Nat} {a : Act} {w : World} (hm : P.follows .mixedOrders = true) (h : Ever P ops Q F ops.size (Array.replicate ops.size false) a w.drew) : (Code.region id ops true).wp P Q a w :=
 wp_region_any hm (Ever.drop _ _ _ _ h)
theorem Ever.done {up : Array Bool} {a : Act} {w : World} (hr : Region.ready .any ops up = []) (h : Q .normal a w) : ∀ n, Ever P ops Q F n up a w
 | 0 => ⟨hr, h⟩
 | _ + 1 => ⟨fun _ => h, by rw [hr]; simp⟩
/-- One alone may come up. -/
theorem Ever.one {i : Nat} {o : Oper} {n : Nat} {up : Array Bool} {a : Act} {w : World} (hr : Region.ready .any ops up = [i]) (ho : ops[i]? = some o)
  (h : ∀ K' : Act → World → Prop, Hid (∀ b u, F u → Ever P ops Q F n (up.setIfInBounds i true) b u → K' b u) → if Region.wanted o (yielded ops a.tmps) = true then Oper.wp P o a w K' Q else K' (a.put o.dst undef) w) :
  Ever P ops Q F (n + 1) up a w := by
 refine ⟨fun h0 => (by rw [hr] at h0; cases h0), fun j hj => ?_⟩
 rw [hr] at hj
 obtain rfl := List.mem_singleton.1 hj
 exact wpOp_step ho fun K' hK => h K' (Lib.hid fun b u h1 h2 => hK b u ⟨h1, h2⟩)
/-- One that only reads is taken first. -/
theorem Ever.early {i : Nat} {oi : Oper} {v : Value} (hi : ops[i]? = some oi) (hsel : ∀ (j : Nat) (o : Oper) cs b, ops[j]? = some o → o.op ≠ .select cs b)
  (hQ : ∀ c a w, Q (.panic c) (a.put oi.dst v) w → Q (.panic c) a w) :
  ∀ (n : Nat) (up : Array Bool) (a : Act) (w : World), (∀ j oj, ops[j]? = some oj → j ≠ i → up.getD j true = false → (∀ e ∈ oj.after, Region.binds .any e = true → e.on ≠ i) → oi.apart ops oj = true) →
   i ∈ Region.ready .any ops up → YieldsIf P ops F oi v a → F w →
   Ever P ops Q F n (up.setIfInBounds i true) (a.put oi.dst v) w → Ever P ops Q F (n + 1) up a w
 | 0, up, a, w, _, hr, hy, hF, H => by
  refine ⟨fun h => (by rw [h] at hr; cases hr), fun j hj => ?_⟩
  by_cases hji : j = i
  ·subst hji; exact hy.wpOp hi hF ⟨hF, H⟩
  ·have := ready_mono hj hji
   rw [H.1] at this; cases this
 | n + 1, up, a, w, hfree, hr, hy, hF, H => by
  refine ⟨fun h => (by rw [h] at hr; cases hr), fun j hj => ?_⟩
  by_cases hji : j = i
  ·subst hji; exact hy.wpOp hi hF ⟨hF, H⟩
  obtain ⟨hjun, oj, hoj, hall⟩ := mem_ready.1 hj
  have hiun : up.getD i true = false := (mem_ready.1 hr).1
  have hnot : ∀ e ∈ oj.after, Region.binds .any e = true → e.on ≠ i := fun e he hb heq => by
   have h1 := hall e he hb
   rw [heq] at h1
   rcases Nat.lt_or_ge i up.size with h' | h'
   ·simp [h'] at hiun h1; rw [hiun] at h1; cases h1
   ·simp [Array.getElem?_eq_none h'] at h1
  refine wpOp_mono (fun b u k => ?_) (wpOp_putIf hoj (hfree j oj hoj hji hjun hnot) (fun cs b => hsel i oi cs b hi) (fun cs b => hsel j oj cs b hoj) hQ hy (H.2 j (ready_mono hj hji)))
  obtain ⟨k1, k2, k3⟩ := k
  refine ⟨k2, Ever.early hi hsel hQ n _ b u (fun m om hm hmi hun hno => hfree m om hm hmi ?_ hno) (ready_mono hr (Ne.symm hji)) k1 k2 ?_⟩
  ·by_cases hjm : j = m
   ·subst hjm; exact hjun
   ·rwa [getD_set_ne true hjm] at hun
  ·rw [Array.setIfInBounds_comm _ _ hji]; exact k3
theorem Ever.take {i : Nat} {oi : Oper} {v : Value} {n : Nat} {up : Array Bool} {a : Act} {w : World} (hi : ops[i]? = some oi) (hs : Region.noSelect ops = true) (hf : Region.free .any ops up i = true) (hr : (Region.ready .any ops up).contains i = true)
  (hQ : ∀ c a w, Q (.panic c) (a.put oi.dst v) w → Q (.panic c) a w) (hy : YieldsIf P ops F oi v a) (hF : F w)
  (h : Ever P ops Q F n (up.setIfInBounds i true) (a.put oi.dst v) w) : Ever P ops Q F (n + 1) up a w :=
 Ever.early hi (Region.noSelect_spec hs) hQ n up a w (Region.free_spec hi hf) (by simpa using hr) hy hF h
end
theorem zbI {α : Type} [DecidableEq α] : ∀ {l m : List α}, l.Nodup → (∀ x ∈ l, x ∈ m) → l.length ≤ m.length
 | [], m, _, _ => by simp
 | x :: l, m, hn, hs => by
  have hx := hs x (by simp)
  have h1 := zbI (l := l) (m := m.erase x) (List.nodup_cons.1 hn).2 (fun y hy => by
   have hne : y ≠ x := fun e => (List.nodup_cons.1 hn).1 (e ▸ hy)
   exact (List.mem_erase_of_ne hne).2 (hs y (by simp [hy])))
  rw [List.length_erase_of_mem hx] at h1
  have := List.length_pos_of_mem hx
  simp only [List.length_cons]; omega
theorem Clo.least {n : Nat} {c : List Nat} (h : Clo.Good n c) {i j : Nat} (hi : i < n) (hj : j < n) (ho : Clo.One c i j) : Clo.cl c i ≤ j := by
 unfold Clo.One at ho; rw [ho]; exact (h.2 j hj).1
namespace Clo
/-- What the classes of the closure answer to. -/
structure Ok (ps : List Tm) (es : List Eqn) (c : List Nat) : Prop where
 ord : Tm.Ord ps
 len : c.length = ps.length
 low : ∀ i, i < ps.length → cl c i ≤ i ∧ cl c (cl c i) = cl c i
 alike : ∀ k i (hk : k < i) (hi : i < ps.length), ps[i].name = (ps[k]'(by omega)).name → kidsB ps c ps[i].kids (ps[k]'(by omega)).kids = true → cl c i = cl c k
 given : ∀ e ∈ es, (e.a ∈ ps ∧ e.b ∈ ps) ∧ cl c (Tm.pos ps e.a) = cl c (Tm.pos ps e.b)
end Clo
/-- How many parts are no first ones. -/
def za0 (c : List Nat) (k : Nat) : Nat := (List.range k).countP fun i => Clo.cl c i != i
theorem zds (c : List Nat) (k : Nat) : za0 c k ≤ k := by unfold za0; have := List.countP_le_length (p := fun i => Clo.cl c i != i) (l := List.range k); rw [List.length_range] at this; exact this
theorem cloS_ok (es : List Eqn) (ms : List Tm) : za0 (cloC es ms) (zx es ms).length = (cloS es ms).length ∧
  ∀ x ∈ cloS es ms, ∃ a b : Nat, x.a = a ∧ x.b = b ∧ a ≠ b ∧ a < (zx es ms).length ∧ b < (zx es ms).length ∧ Clo.cl (cloC es ms) a = Clo.cl (cloC es ms) b := by
 obtain ⟨h1, h2, h3⟩ := Clo.close_made (zat es ms)
 refine ⟨?_, h1.step⟩
 have hc := h1.count
 have hl := List.length_eq_countP_add_countP (fun i => Clo.cl (cloC es ms) i == i) (l := List.range (zx es ms).length)
 rw [List.length_range] at hl
 have he : za0 (cloC es ms) (zx es ms).length = (List.range (zx es ms).length).countP (fun a => decide ¬(Clo.cl (cloC es ms) a == a) = true) := by
  unfold za0
  congr 1
  funext i
  cases h : (Clo.cl (cloC es ms) i == i) <;> simp [bne, h]
 have hr : Clo.roots (zx es ms).length (cloC es ms) = (List.range (zx es ms).length).countP (fun i => Clo.cl (cloC es ms) i == i) := rfl
 change Clo.roots (zx es ms).length (cloC es ms) + (cloS es ms).length = _ at hc
 omega
mutual
/-- The given ones that a reason uses, as they come. -/
def Wy.uses : Wy → List Int
 | .mk r n _ ks => (if r = 2 then [n] else []) ++ Wy.usesL ks
def Wy.usesL : List Wy → List Int
 | [] => []
 | k :: ks => Wy.uses k ++ Wy.usesL ks
end
theorem Wy.uses_eq (x : Wy) : x.uses = (if x.rule = 2 then [x.n] else []) ++ Wy.usesL x.kids := by cases x; rw [Wy.uses]; rfl
theorem Wy.uses_mk (r n : Int) (t : Tm) (ks : List Wy) : (Wy.mk r n t ks).uses = (if r = 2 then [n] else []) ++ Wy.usesL ks := by rw [Wy.uses]
theorem Wy.usesL_app : ∀ (a b : List Wy), Wy.usesL (a ++ b) = Wy.usesL a ++ Wy.usesL b
 | [], b => by simp [Wy.usesL]
 | k :: a, b => by simp only [List.cons_append, Wy.usesL, Wy.usesL_app a b, List.append_assoc]
theorem Wy.usesL_succ {ks : List Wy} {k : Nat} (h : k < ks.length) : Wy.usesL (ks.take (k + 1)) = Wy.usesL (ks.take k) ++ Wy.uses ks[k] := by
 rw [zeq h, Wy.usesL_app]; simp [Wy.usesL]
namespace Clo
/-- The first one of a class. -/
def rep (ps : List Tm) (c : List Nat) (t : Tm) : Tm := ps.getD (cl c (Tm.pos ps t)) t
def look (ps : List Tm) (c : List Nat) (n : ByteArray) (ds : List Tm) : Tm :=
 match ps.find? (fun p => decide (p.name = n) && decide (p.kids.map (rep ps c) = ds)) with
 | some p => rep ps c p
 | none => .mk n ds
/-- A model in which all that is in one class is one. -/
def val (ps : List Tm) (c : List Nat) : Tm → Tm
 | .mk n ks => look ps c n (ks.map (val ps c))
theorem Ok.kid {ps : List Tm} {es : List Eqn} {c : List Nat} (h : Ok ps es c) {t : Tm} (ht : t ∈ ps) : ∀ k ∈ t.kids, k ∈ ps := fun k hk => by
 obtain ⟨i, hi, rfl⟩ := List.getElem_of_mem ht
 exact List.mem_of_mem_take ((h.ord i hi).1 k hk)
end Clo
theorem nats_at {c : List Nat} {k : Nat} (h : k < (nats c).length) : (nats c)[k] = ((Clo.cl c k : Nat) : Int) := by
 have h' : k < c.length := by simpa [nats] using h
 simp only [nats, List.getElem_map, Clo.cl, List.getD_eq_getElem?_getD, List.getElem?_eq_getElem h', Option.getD_some]
theorem len_of_eq {a b : Nat} (h : a = b) : ((a : Int) == (b : Int)) = true := by rw [h]; simp
theorem zdu (xs : List Int) (v y : Value) (f f' : List Nat) (w : World) (hv : Rd w (.sl (xs.map zk)) v f) (hx : Rd w (.sl (xs.map zk)) y f') :
  Calls Tryz.prog 15 #[v, y] w fun e w' => e = .returned (.bool true) ∧ Below w.heap.size w w' := by
 obtain ⟨a, c, rfl, hc1, hc2⟩ := zd hv
 obtain ⟨a', c', rfl, hc1', hc2'⟩ := zd hx
 go_enter Tryz.func15, Tryz.ntmps15
 go_wp2_with fail
 go_loopw [5] (fun i wr => ∃ k : Nat, k ≤ xs.length ∧ i = .int .i64 k ∧ Below w.heap.size w wr) (fun i _ => xs.length - (intOf i).toNat)
 case atStart => exact ⟨0, Nat.zero_le _, rfl, Below.refl _ _⟩
 case round =>
  obtain ⟨k, hkl, rfl, hb⟩ := hrel
  have hz := hb.size
  by_cases hlt : k < xs.length
  ·obtain ⟨b, off, rfl, hbs, _⟩ := zm hv (by omega)
   obtain ⟨b', off', rfl, hbs', _⟩ := zm hx (by omega)
   obtain ⟨d0, _⟩ := zL (hv.below hb) hlt
   obtain ⟨d0', _⟩ := zL (hx.below hb) hlt
   go_wp2_with fail
   have q0 := cell_regrown d0
   have q0' := cell_regrown d0'
   clear d0 d0'
   refine wp_region_quiet_below (by kernel_rfl) (by kernel_rfl) ?_
   repeat (quiet_step (fail))
   refine wpQuiet_nil ?_
   intro w2 hw2
   obtain ⟨⟨dq, osq⟩, hw2⟩ := hw2
   have hb2 : Below wr.heap.size wr w2 := hw2 ▸ below_regrown wr dq osq
   clear hw2 q0 q0'
   go_wp2_with fail
   go_roundw
   case rel => exact ⟨k + 1, by omega, by go_num, hb.trans (hb2.mono hz)⟩
   case measure => simp [intOf]; omega
  ·go_wp2_with fail
   go_ret
   exact ⟨rfl, hb⟩
/-- Up to k the kids are in one class each. -/
def KidsTo (ps : List Tm) (c : List Nat) (xs ys : List Tm) (k : Nat) : Prop := ∀ j, j < k → ∀ (h1 : j < xs.length) (h2 : j < ys.length), Clo.cl c (Tm.pos ps xs[j]) = Clo.cl c (Tm.pos ps ys[j])
theorem KidsTo.succ {ps : List Tm} {c : List Nat} {xs ys : List Tm} {k : Nat} (h : KidsTo ps c xs ys k) (hk1 : k < xs.length) (hk2 : k < ys.length) (he : Clo.cl c (Tm.pos ps xs[k]) = Clo.cl c (Tm.pos ps ys[k])) : KidsTo ps c xs ys (k + 1) := fun j hj h1 h2 => by
 rcases Nat.lt_or_ge j k with h3 | h3
 ·exact h j h3 h1 h2
 ·obtain rfl : j = k := by omega
  exact he
/-- What comes back: an equation, read where one is told, and whether one is. -/
def zP (lo : Nat) (o : Option Eqn) (w : World) (e : Ending) (w' : World) : Prop := ∃ (n0 : ByteArray) (a1 : Option Addr) (m1 c1 : Nat) (n2 : ByteArray) (a3 : Option Addr) (m3 c3 : Nat), e = .returned (.tuple #[.agg #[.string n0, .slice a1 m1 c1, .string n2, .slice a3 m3 c3], .bool o.isSome]) ∧
 (∀ q, o = some q → ∃ f, RdVs w' q.cd [.string n0, .slice a1 m1 c1, .string n2, .slice a3 m3 c3] f ∧ ∀ b ∈ f, b < lo ∨ w.heap.size ≤ b) ∧ Below w.heap.size w w'
theorem zaI (t : Tm) (v : Value) (w : World) (hv : TmR w t v) : Calls Tryz.prog 52 #[v] w fun e w' => e = .returned (.bool (zcv t)) ∧ Below w.heap.size w w' := by
 obtain ⟨kv, rfl, hs, hk⟩ := hv
 obtain ⟨a, cap, rfl, hc1, hc2⟩ := hk.form
 have HB : Hid (zcv t = (t.name.toList == [] && ((t.kids.length : Int) == 0))) := Lib.hid rfl
 cases h1 : (t.name.toList == [])
 all_goals
  have H1 := Lib.hid h1
  go_enter Tryz.func52, Tryz.ntmps52
  go_wp2_with fail
  go_ret
  exact ⟨retB (by rw [HB.out, H1.out]; first | rfl | simp | (simp [Bool.beq_eq_decide_eq])), zb _ _⟩
theorem zy {w w' : World} {lo : Nat} {o : Option Eqn} (h : o = none) (hb : Below w.heap.size w w') : zP lo o w (.returned (.tuple #[.agg #[.string ⟨#[]⟩, .slice none 0 0, .string ⟨#[]⟩, .slice none 0 0], .bool false])) w' := by
 subst h; exact ⟨_, _, _, _, _, _, _, _, rfl, (fun q hq => by cases hq), hb⟩
theorem zaM {w w' : World} {lo : Nat} {o : Option Eqn} {q : Eqn} {b : Bool} {n0 n2 : ByteArray} {a1 a3 : Option Addr} {m1 c1 m3 c3 : Nat} {f : List Nat} (h : o = if b = true then some q else none) (hr : RdVs w' q.cd [.string n0, .slice a1 m1 c1, .string n2, .slice a3 m3 c3] f) (hf : ∀ b ∈ f, b < lo ∨ w.heap.size ≤ b) (hb : Below w.heap.size w w') :
  zP lo o w (.returned (.tuple #[.agg #[.string n0, .slice a1 m1 c1, .string n2, .slice a3 m3 c3], .bool b])) w' := by
 subst h
 refine ⟨_, _, _, _, _, _, _, _, by cases b <;> rfl, (fun p hp => ?_), hb⟩
 cases b
 ·simp at hp
 ·simp at hp; subst hp; exact ⟨f, hr, hf⟩
theorem zc8 {w : World} {r : Nat} {v0 v1 v2 v3 : Value} (b : Nat) (h : b ≠ r) : ((((w.setCell ⟨r, 0, none⟩ v0).setCell ⟨r, 1, none⟩ v1).setCell ⟨r, 2, none⟩ v2).setCell ⟨r, 3, none⟩ v3).heap[b]? = w.heap[b]? :=
 (Below.heap_setCell _ _ _ _ h).trans ((Below.heap_setCell _ _ _ _ h).trans ((Below.heap_setCell _ _ _ _ h).trans (Below.heap_setCell _ _ _ _ h)))
theorem so4 {w : World} {r b j : Nat} {v0 v1 v2 v3 u : Value} (h : b ≠ r) (hc : w.cell? ⟨b, j, none⟩ = some u) : ((((w.setCell ⟨r, 0, none⟩ v0).setCell ⟨r, 1, none⟩ v1).setCell ⟨r, 2, none⟩ v2).setCell ⟨r, 3, none⟩ v3).cell? ⟨b, j, none⟩ = some u :=
 zl (zc8 b h) hc
theorem zcl {w : World} {base lo hi e k : Nat} {v : Value} {es : List (List CD)} {fp : List Nat} (h : Own w base e k v es fp) (hf : ∀ b ∈ fp, b < lo ∨ hi ≤ b) (hb : hi ≤ base := by omega) : ∃ fq, Rd w (.sl es) v fq ∧ ∀ b ∈ fq, b < lo ∨ hi ≤ b := by
 obtain ⟨fq, h1, h2⟩ := h.rd
 refine ⟨fq, h1, fun b hb' => ?_⟩
 rcases h2 with ⟨_, _, rfl⟩ | ⟨g, c, _, rfl, _, h3, _⟩
 ·cases hb'
 ·rcases zev.1 hb' with rfl | h4
  ·right; omega
  ·exact hf b h4
theorem wf_name {n : ByteArray} {ks : List Tm} (h : zaa n = false) : (Tm.mk n ks).wf = false := by
 unfold Tm.wf
 rw [Tm.shape_eq]
 simp [Tm.name, h]
theorem cong_rd {w : World} {n : ByteArray} {l : List Eqn} {ga ja : Option Addr} {gc jc : Nat} {fra frb : List Nat} (m2 : n.size ≤ maxLen) (h1 : Rd w (.sl ((l.map Eqn.a).map Tm.cd)) (.slice ga l.length gc) fra) (h2 : Rd w (.sl ((l.map Eqn.b).map Tm.cd)) (.slice ja l.length jc) frb) :
  RdVs w (Eqn.mk (.mk n (l.map Eqn.a)) (.mk n (l.map Eqn.b))).cd [.string n, .slice ga l.length gc, .string n, .slice ja l.length jc] (fra ++ frb) := by
 have e1 : (Eqn.mk (.mk n (l.map Eqn.a)) (.mk n (l.map Eqn.b))).a.kids.length = l.length := by simp [Tm.kids]
 have e2 : (Eqn.mk (.mk n (l.map Eqn.a)) (.mk n (l.map Eqn.b))).b.kids.length = l.length := by simp [Tm.kids]
 have h := Eqn.close (x := ⟨.mk n (l.map Eqn.a), .mk n (l.map Eqn.b)⟩) (a1 := ga) (c1 := gc) (f1 := fra) (a3 := ja) (c3 := jc) (f3 := frb) m2 (by rw [e1]; exact h1) m2 (by rw [e2]; exact h2)
 rw [e1, e2] at h
 exact h
end Go.Proofs.YtlefdhhnlbpbkaaGreat
end
