/- Parts of the proof: CloR TermL Eqs CloL. -/
import Derived.Test.YtlefdhhnlbpbkaaGreatPv6
import Derived.Test.YtlefdhhnlbpbkaaGreatPv5
import Derived.Laws.OwnMore
import Derived.Test.YtlefdhhnlbpbkaaGreatPv2
import Derived.Deep.RegionHeld3
import Derived.Test.YtlefdhhnlbpbkaaGreatPv11
import Derived.Test.YtlefdhhnlbpbkaaGreatPv7
section
namespace Go.Proofs.YtlefdhhnlbpbkaaGreat
open Go Go.RowKit
set_option linter.unusedVariables false
set_option linter.unusedSimpArgs false
set_option maxRecDepth 100000
set_option maxHeartbeats 16000000
theorem zcq {w : World} : ∀ (l : List Int) (vs : List Value) (f : List Nat), RdVs w (l.map zk).flatten vs f → vs = l.map (Value.int .i64) ∧ f = [] ∧ ∀ x ∈ l, I64 x
 | [], vs, f, h => by simp [RdVs] at h; simp [h]
 | x :: l, vs, f, h => by
  simp only [List.map_cons, List.flatten_cons] at h
  obtain ⟨us, us', g, g', rfl, rfl, h1, h2⟩ := h.split
  obtain ⟨h3, h4, h5⟩ := zcq l _ _ h2
  obtain ⟨v, rfl, hr⟩ := RdVs.one_inv h1
  obtain ⟨rfl, hi, rfl⟩ := zu hr
  refine ⟨by rw [h3]; rfl, by rw [h4]; rfl, fun y hy => ?_⟩
  rcases zev.1 hy with rfl | hy
  ·exact hi
  ·exact h5 y hy
theorem zX {w : World} : ∀ (l : List Int), (∀ x ∈ l, I64 x) → RdVs w (l.map zk).flatten (l.map (Value.int .i64)) []
 | [], _ => by simp [RdVs]
 | x :: l, h => by
  have h1 : RdVs w (zk x) [Value.int .i64 x] [] := RdVs.single (by simp only [Rd]; exact ⟨trivial, h x (by simp), trivial⟩)
  exact h1.app (zX l fun y hy => h y (by simp [hy]))
/-- A row of numbers of the call's own. -/
def IRow (w : World) (B : Nat) (v : Value) (l : List Int) : Prop := Own w B 3 1 v (l.map zk) []
theorem IRow.raw {w : World} {B : Nat} {v : Value} {l : List Int} (h : IRow w B v l) : w.ownsRow B 3 1 v l.length (l.map (Value.int .i64)) ∧ ∀ x ∈ l, I64 x := by
 obtain ⟨xs, h1, h2, _, _⟩ := h
 obtain ⟨rfl, _, h3⟩ := zcq _ _ _ h2
 exact ⟨by simpa using h1, h3⟩
theorem IRow.mk {w : World} {B : Nat} {v : Value} {l : List Int} (h : w.ownsRow B 3 1 v l.length (l.map (Value.int .i64))) (h2 : ∀ x ∈ l, I64 x) : IRow w B v l :=
 ⟨_, by simpa using h, zX l h2, by simp only [List.mem_map]; rintro x ⟨y, _, rfl⟩; rfl, by simp⟩
theorem IRow.below {w w' : World} {B : Nat} {v : Value} {l : List Int} (h : IRow w B v l) (hb : Below w.heap.size w w') : IRow w' B v l := Own.below h hb
theorem IRow.form {w : World} {B : Nat} {v : Value} {l : List Int} (h : IRow w B v l) (hl : 0 < l.length) : ∃ g c, v = .slice (some ⟨g, 0, none⟩) l.length c ∧ B ≤ g ∧ g < w.heap.size ∧ l.length ≤ c := by
 obtain ⟨h1, _⟩ := h.raw
 rcases h1.2 with ⟨_, h0⟩ | ⟨g, c, cur, rfl, hbg, hg, hnc, hcm, hcs, htk⟩
 ·omega
 ·exact ⟨g, c, rfl, hbg, (h1.lt g rfl).2, hnc⟩
theorem IRow.cell {w : World} {B g n c : Nat} {l : List Int} (h : IRow w B (.slice (some ⟨g, 0, none⟩) n c) l) {k : Nat} (hk : k < l.length) : w.cell? ⟨g, k, none⟩ = some (.int .i64 l[k]) ∧ I64 l[k] := by
 obtain ⟨h1, h2⟩ := h.raw
 have := h1.cells (g := g) rfl k (.int .i64 l[k]) (by simp [hk])
 rw [Addr.add_lit] at this
 exact ⟨by simpa using this, h2 _ (zes hk)⟩
theorem IRow.free {w : World} {B g n c : Nat} {l : List Int} (h : IRow w B (.slice (some ⟨g, 0, none⟩) n c) l) (j : Nat) : w.frozen? ⟨g, j, none⟩ = false := by
 obtain ⟨h1, _⟩ := h.raw
 have e : n = l.length := by
  rcases h1.2 with ⟨h, _⟩ | ⟨_, _, _, h, _⟩
  ·simp at h
  ·simp only [Value.slice.injEq] at h; exact h.2.1
 subst e
 exact h1.frozenAt j
theorem IRow.set {w : World} {B g n c : Nat} {l : List Int} (h : IRow w B (.slice (some ⟨g, 0, none⟩) n c) l) (k : Nat) {x : Int} (hx : I64 x) :
  IRow (w.setCell ⟨g, k, none⟩ (.int .i64 x)) B (.slice (some ⟨g, 0, none⟩) n c) (l.set k x) ∧ Moved w (.slice (some ⟨g, 0, none⟩) n c) (w.setCell ⟨g, k, none⟩ (.int .i64 x)) (.slice (some ⟨g, 0, none⟩) n c) := by
 obtain ⟨h1, h2⟩ := h.raw
 have e : n = l.length := by
  rcases h1.2 with ⟨h, _⟩ | ⟨_, _, _, h, _⟩
  ·simp at h
  ·simp only [Value.slice.injEq] at h; exact h.2.1
 subst e
 obtain ⟨h3, h4⟩ := h1.stored k (.int .i64 x)
 refine ⟨IRow.mk (by rw [List.length_set, List.map_set]; exact h3) (fun y hy => ?_), h4, fun b hb => .inl hb⟩
 rcases List.mem_or_eq_of_mem_set hy with hy | rfl
 ·exact h2 y hy
 ·exact hx
/-- Classes, as numbers. -/
def nats (c : List Nat) : List Int := c.map (fun (n : Nat) => (n : Int))
theorem zt (c : List Nat) : (nats c).length = c.length := by simp [nats]
namespace Clo
theorem cl_get {c : List Nat} {i : Nat} (h : i < c.length) : cl c i = c[i] := by unfold cl; rw [List.getD_eq_getElem?_getD, List.getElem?_eq_getElem h]; rfl
theorem nats_get {c : List Nat} {i : Nat} (h : i < c.length) : (nats c)[i]'(by rw [zt]; exact h) = (cl c i : Nat) := by
 rw [cl_get h]; simp [nats]
/-- In the midst of the joining. -/
def mid (c : List Nat) (f t i : Nat) : List Nat := ((c.take i).map fun k => if k = f then t else k) ++ c.drop i
theorem mid_zero (c : List Nat) (f t : Nat) : mid c f t 0 = c := by simp [mid]
theorem mid_len (c : List Nat) (f t i : Nat) : (mid c f t i).length = c.length := by simp [mid]; omega
theorem mid_at {c : List Nat} {f t i : Nat} (h : i < c.length) : cl (mid c f t i) i = cl c i := by
 unfold cl mid
 rw [List.getD_eq_getElem?_getD, List.getD_eq_getElem?_getD, List.getElem?_append_right (by simp; omega)]
 congr 1
 simp [Nat.min_eq_left (Nat.le_of_lt h)]
theorem mid_yes {c : List Nat} {f t i : Nat} (h : i < c.length) (he : cl c i = f) : mid c f t (i + 1) = (mid c f t i).set i t := by
 unfold mid
 rw [cl_get h] at he
 rw [zeq h, List.drop_eq_getElem_cons h, zeu, List.set_append_right _ _ (by simp; omega)]
 simp [Nat.min_eq_left (Nat.le_of_lt h), he]
theorem mid_no {c : List Nat} {f t i : Nat} (h : i < c.length) (he : cl c i ≠ f) : mid c f t (i + 1) = mid c f t i := by
 unfold mid
 rw [cl_get h] at he
 rw [zeq h, List.drop_eq_getElem_cons h]
 simp only [zeu, List.map_cons, List.map_nil, if_neg he, List.append_assoc, List.cons_append, List.nil_append]
theorem mid_end {c : List Nat} {a b i : Nat} (h : c.length ≤ i) : mid c (hi c a b) (lo c a b) i = join c a b := by
 unfold mid join
 rw [List.take_of_length_le h, List.drop_eq_nil_of_le h, List.append_nil]
end Clo
theorem nats_set (c : List Nat) (i n : Nat) : (nats c).set i (n : Int) = nats (c.set i n) := by simp [nats, List.map_set]
theorem zaA {n : Nat} (h : n ≤ 1000000000) : I64 (n : Int) := ⟨by omega, by omega⟩
namespace Tm
/-- Each stands behind its kids, and once. -/
def Ord (l : List Tm) : Prop := ∀ i (h : i < l.length), (∀ k ∈ l[i].kids, k ∈ l.take i) ∧ l[i] ∉ l.take i
theorem Ord.nil : Ord [] := fun i h => by simp at h
theorem Ord.snoc {l : List Tm} (h : Ord l) {t : Tm} (hk : ∀ k ∈ t.kids, k ∈ l) (hn : t ∉ l) : Ord (l ++ [t]) := by
 intro i hi
 rw [zet, List.length_singleton] at hi
 rcases Nat.lt_or_ge i l.length with h1 | h1
 ·have h2 := h i h1
  rw [List.getElem_append_left h1, List.take_append_of_le_length (by omega)]
  exact h2
 ·obtain rfl : i = l.length := by omega
  rw [List.getElem_append_right (Nat.le_refl _), List.take_left]
  simp only [Nat.sub_self, List.getElem_cons_zero]
  exact ⟨hk, hn⟩
mutual
theorem addP_ord : ∀ (t : Tm) (l : List Tm), Ord l → Ord (addP l t)
 | .mk n ks, l, h => by
  have h1 := addPs_ord ks l h
  have h2 := addPs_all ks l
  simp only [addP]
  split
  ·exact h1
  ·rename_i hm
   refine h1.snoc (fun k hk => ?_) hm
   exact ((allIn_eq _ _).1 ((allIns_iff _ _).1 h2 k hk)).1
theorem addPs_ord : ∀ (ts l : List Tm), Ord l → Ord (addPs l ts)
 | [], l, h => by simpa [addPs] using h
 | t :: ts, l, h => by simp only [addPs]; exact addPs_ord ts _ (addP_ord t l h)
end
/-- What is in such a list has all its parts in it, as far as it stands. -/
theorem Ord.closed {l : List Tm} (h : Ord l) : ∀ (n i : Nat) (hi : i < l.length), i ≤ n → zcn (l.take (i + 1)) l[i] := by
 intro n
 induction n with
 | zero =>
  intro i hi hn
  obtain rfl : i = 0 := by omega
  refine (allIn_eq _ _).2 ⟨?_, (allIns_iff _ _).2 fun k hk => ?_⟩
  ·rw [zeq hi]; simp
  ·have := (h 0 hi).1 k hk; simp at this
 | succ n ih =>
  intro i hi hn
  refine (allIn_eq _ _).2 ⟨?_, (allIns_iff _ _).2 fun k hk => ?_⟩
  ·exact List.mem_iff_getElem.2 ⟨i, by rw [List.length_take]; omega, by rw [List.getElem_take]⟩
  ·have h1 := (h i hi).1 k hk
   obtain ⟨j, hj, rfl⟩ := List.mem_iff_getElem.1 h1
   rw [List.length_take] at hj
   have h2 := ih j (by omega) (by omega)
   rw [List.getElem_take]
   exact za4 (fun x hx => List.mem_of_mem_take (i := j + 1) (by rw [List.take_take, Nat.min_eq_left (by omega)]; exact hx)) _ h2
/-- What comes in by a property that goes down to the kids has that property. -/
theorem addP_pred {p : Tm → Prop} (hp : ∀ t, p t → ∀ k ∈ t.kids, p k) : ∀ (n : Nat) (t : Tm) (l : List Tm), t.size ≤ n → p t → (∀ x ∈ l, p x) → ∀ x ∈ addP l t, p x := by
 intro n
 induction n with
 | zero => intro t; have := t.size_pos; omega
 | succ n ih =>
  intro t l hn ht hl
  have hk : ∀ (ks l : List Tm), (∀ k ∈ ks, k.size ≤ n ∧ p k) → (∀ x ∈ l, p x) → ∀ x ∈ addPs l ks, p x := by
   intro ks
   induction ks with
   | nil => intro l _ hl; simpa [addPs] using hl
   | cons k ks ihk =>
    intro l hks hl
    simp only [addPs]
    exact ihk _ (fun q hq => hks q (List.mem_cons_of_mem _ hq)) (ih k l (hks k (by simp)).1 (hks k (by simp)).2 hl)
  have h1 := hk t.kids l (fun k hk' => ⟨by have := size_kid_mem hk'; omega, hp t ht k hk'⟩) hl
  rw [addP_eq]
  split
  ·exact h1
  ·intro x hx
   rcases zer.1 hx with hx | hx
   ·exact h1 x hx
   ·rw [List.mem_singleton.1 hx]; exact ht
theorem addPs_pred {p : Tm → Prop} (hp : ∀ t, p t → ∀ k ∈ t.kids, p k) : ∀ (ts l : List Tm), (∀ t ∈ ts, p t) → (∀ x ∈ l, p x) → ∀ x ∈ addPs l ts, p x
 | [], l, _, hl => by simpa [addPs] using hl
 | t :: ts, l, h, hl => by
  simp only [addPs]
  exact addPs_pred hp ts _ (fun q hq => h q (List.mem_cons_of_mem _ hq)) (addP_pred hp t.size t l (Nat.le_refl _) (h t (by simp)) hl)
end Tm
def zj (es : List Eqn) : List Tm := es.flatMap (fun e => [e.a, e.b])
theorem zaU (es : List Eqn) (k : Nat) (h : k < es.length) : zj (es.take (k + 1)) = zj (es.take k) ++ [es[k].a, es[k].b] := by
 rw [zeq h, zj, List.flatMap_append]; simp [zj]
theorem zb3 : ∀ (es : List Eqn), (zj es).length = 2 * es.length
 | [] => rfl
 | e :: es => by have := zb3 es; simp only [zj, List.flatMap_cons, zet, List.length_cons, List.length_nil] at *; omega
def Eqn.okB (s : Sg) (e : Eqn) : Bool := match e.a.tsrt s, e.b.tsrt s with | some m, some n => m == n | _, _ => false
theorem Eqn.okB_a {s : Sg} {e : Eqn} (h : e.a.tsrt s = none) : e.okB s = false := by simp [Eqn.okB, h]
theorem Eqn.okB_b {s : Sg} {e : Eqn} (h : e.b.tsrt s = none) : e.okB s = false := by unfold Eqn.okB; rw [h]; split <;> simp_all
theorem Eqn.okB_ab {s : Sg} {e : Eqn} {m n : Int} (h : e.a.tsrt s = some m) (h' : e.b.tsrt s = some n) : e.okB s = (m == n) := by simp [Eqn.okB, h, h']
theorem Eqn.okB_wf {s : Sg} {e : Eqn} (h : e.okB s = true) : e.a.wf = true ∧ e.b.wf = true := by
 constructor
 ·cases hw : e.a.wf with
  | true => rfl
  | false => rw [Eqn.okB_a (Tm.tsrt_bad hw)] at h; simp at h
 ·cases hw : e.b.wf with
  | true => rfl
  | false => rw [Eqn.okB_b (Tm.tsrt_bad hw)] at h; simp at h
def eqsB (s : Sg) (es : List Eqn) : Bool := s.okB && (decide (es.length ≤ 12) && (es.all (Eqn.okB s) && decide ((Tm.addPs [] (zj es)).length ≤ 24)))
theorem eqsB_sig {s : Sg} {es : List Eqn} (h : s.okB = false) : eqsB s es = false := by simp [eqsB, h]
theorem zdB {s : Sg} {es : List Eqn} (h : ¬ es.length ≤ 12) : eqsB s es = false := by simp [eqsB, h]
theorem zbn {s : Sg} {es : List Eqn} {k : Nat} (hk : k < es.length) (h : es[k].okB s = false) : eqsB s es = false := by
 have : es.all (Eqn.okB s) = false := by rw [List.all_eq_false]; exact ⟨es[k], zes hk, by simp [h]⟩
 simp only [eqsB, this, Bool.false_and, Bool.and_false]
theorem eqsB_all {s : Sg} {es : List Eqn} {k : Nat} (h1 : s.okB = true) (h2 : es.length ≤ 12) (hk : es.length ≤ k) (h : ∀ j, j < k → ∀ (hj : j < es.length), es[j].okB s = true) : eqsB s es = decide ((Tm.addPs [] (zj es)).length ≤ 24) := by
 have : es.all (Eqn.okB s) = true := by
  rw [List.all_eq_true]; intro e he
  obtain ⟨j, hj, rfl⟩ := List.getElem_of_mem he
  exact h j (by omega) hj
 simp only [eqsB, h1, decide_eq_true h2, this, Bool.true_and]
theorem zdC {s : Sg} {es : List Eqn} {k : Nat} (hk : es.length ≤ k) (h : ∀ j, j < k → ∀ (hj : j < es.length), es[j].okB s = true) : (zj es).all Tm.wf = true := by
 rw [List.all_eq_true]; intro t ht
 simp only [zj, List.mem_flatMap] at ht
 obtain ⟨e, he, ht⟩ := ht
 obtain ⟨j, hj, rfl⟩ := List.getElem_of_mem he
 have := Eqn.okB_wf (h j (by omega) hj)
 simp only [zev, List.not_mem_nil, or_false] at ht
 rcases ht with rfl | rfl
 ·exact this.1
 ·exact this.2
theorem zdY (s : Sg) (q : Eqn) (us vs : List Value) (f f' : List Nat) (w : World) (hx : RdVs w q.cd us f') (hv : RdVs w s.cd vs f) :
  Calls Tryz.prog 39 #[.agg us.toArray, .agg vs.toArray] w fun e w' => e = .returned (.bool (q.okB s)) ∧ Below w.heap.size w w' := by
 obtain ⟨a0, c0, f0, rfl, _, m0⟩ := Sg.open hv
 obtain ⟨b1, e1, g1, b3, e3, g3, rfl, _, t0, t1, t2, t3⟩ := Eqn.open hx
 go_enter Tryz.func39, Tryz.ntmps39
 go_wp2_with fail
 refine (zbj s q.a _ _ _ _ _ (by exact hv.below (((Below.refl _ _).alloc (Nat.le_refl _) _).alloc (by simp) _)) (by exact (Tm.rdv t0 t1).below (((Below.refl _ _).alloc (Nat.le_refl _) _).alloc (by simp) _))).mono ?_
 rintro e w1 ⟨rfl, hb1⟩
 obtain ⟨hxL, hyL, hzL, hBL⟩ := box2 (w := w) (wr := w1) (cs := #[.string q.a.name, .slice b1 q.a.kids.length e1, .string q.b.name, .slice b3 q.b.kids.length e3]) (ds := #[.slice a0 s.syms.length c0]) (T := 36) (U := 25) (zK hb1 (by simp))
 have cx2 := hxL 2
 have cx3 := hxL 3
 have cy0 := hyL 0
 simp only [zeo, zem, zen] at cx2 cx3 cy0
 clear hxL hyL hb1
 have H1 : Hid (∃ o, q.a.tsrt s = o) := Lib.hid ⟨_, rfl⟩
 obtain ⟨o1, ho1⟩ := H1.out
 have HO1 := Lib.hid ho1
 rw [ho1]
 clear ho1 H1
 go_wp2_with fail
 refine (zbj s q.b _ _ _ _ _ (hv.below hBL) ((Tm.rdv t2 t3).below hBL)).mono ?_
 rintro e w2 ⟨rfl, hb2⟩
 have hB2 := hBL.trans (hb2.mono hBL.size)
 clear hb2
 cases o1 with
 | none =>
  have HF := Lib.hid (Eqn.okB_a HO1.out)
  simp only [Option.getD_none, Option.isSome_none]
  go_wp2_with fail
  go_ret
  exact ⟨retB HF.out.symm, hB2⟩
 | some m =>
  simp only [Option.getD_some, Option.isSome_some]
  cases ho2 : q.b.tsrt s with
  | none =>
   have HF := Lib.hid (Eqn.okB_b ho2)
   clear ho2
   simp only [Option.getD_none, Option.isSome_none]
   go_wp2_with fail
   go_ret
   exact ⟨retB HF.out.symm, hB2⟩
  | some n =>
   have HF := Lib.hid (Eqn.okB_ab HO1.out ho2)
   clear ho2
   simp only [Option.getD_some, Option.isSome_some]
   go_wp2_with fail
   go_ret
   exact ⟨retB (by rw [HF.out]; try rfl), hB2⟩
theorem zdZ (es : List Eqn) (v : Value) (f : List Nat) (w : World) (hbig : es.length ≤ 1048576) (hv : Rd w (.sl (es.map Eqn.cd)) v f) :
  Calls Tryz.prog 41 #[v] w fun e w' => (∃ rv fp, e = .returned rv ∧ Own w' w.heap.size 29 2 rv ((zj es).map Tm.cd) fp ∧ ∀ b ∈ fp, b < w.heap.size) ∧ Below w.heap.size w w' := by
 obtain ⟨a, cap, rfl, hc1, hc2⟩ := zd hv
 go_enter Tryz.func41, Tryz.ntmps41
 go_wp2_with fail
 go_loopw [3, 8] (fun ov i wr => ∃ (k : Nat) (fp : List Nat), k ≤ es.length ∧ i = .int .i64 k ∧ Own wr w.heap.size 29 2 ov ((zj (es.take k)).map Tm.cd) fp ∧ (∀ b ∈ fp, b < w.heap.size) ∧ Below w.heap.size w wr) (fun _ i _ => es.length - (intOf i).toNat)
 case atStart => exact ⟨0, [], Nat.zero_le _, rfl, Own.nil _ _ _ _, by simp, Below.refl _ _⟩
 case round =>
  obtain ⟨k, fp, hkl, rfl, hown, hfp, hb⟩ := hrel
  have hz := hb.size
  by_cases hlt : k < es.length
  ·obtain ⟨b, off, rfl, hbs, _⟩ := zm hv (by omega)
   have hbz : b < wr.heap.size := by omega
   obtain ⟨b1, e1, g1, b3, e3, g3, d0', d1', d2', d3', t0, t1, t2, t3, hsub⟩ := Eqn.at hv hlt
   have d0 := za d0' hb
   have d1 := za d1' hb
   have d2 := za d2' hb
   have d3 := za d3' hb
   have hfl := hv.lt _
   have hnews : RdVs w [es[k].a.cd, es[k].b.cd].flatten [.string es[k].a.name, .slice b1 es[k].a.kids.length e1, .string es[k].b.name, .slice b3 es[k].b.kids.length e3] (g1 ++ g3) := by
    have := (Tm.rdv t0 t1).app (Tm.rdv t2 t3)
    simpa using this
   have hsl := zb3 (es.take k)
   have htk : (es.take k).length = k := by rw [List.length_take]; omega
   have hBA : Below wr.heap.size wr ((wr.alloc (.cells #[.string es[k].a.name, .slice b1 es[k].a.kids.length e1, .string es[k].b.name, .slice b3 es[k].b.kids.length e3] 36)).alloc (.cells #[.string es[k].a.name, .slice b1 es[k].a.kids.length e1, .string es[k].b.name, .slice b3 es[k].b.kids.length e3] 29)) := ((Below.refl _ _).alloc (Nat.le_refl _) _).alloc (by simp) _
   have hB2 := hb.trans (hBA.mono hz)
   have hl : ((zj (es.take k)).map Tm.cd).length = 2 * k := by rw [zew, hsl, htk]
   go_wp2_with (at_builtin; refine zp zal rfl _ _ rfl w.heap.size _ _ _ rfl (hown.below hBA) ⟨wr.heap.size + 1, 0, none⟩ 2 2 [es[k].a.cd, es[k].b.cd] [.string es[k].a.name, .slice b1 es[k].a.kids.length e1, .string es[k].b.name, .slice b3 es[k].b.kids.length e3] (g1 ++ g3) rfl rfl (hnews.below hB2) ?k ?cells ?na ?bytes ?len ?base ?next)
   case k => simp [Tm.cd_len]
   case cells =>
    intro j u hj
    have := zn (wr.alloc (.cells #[.string es[k].a.name, .slice b1 es[k].a.kids.length e1, .string es[k].b.name, .slice b3 es[k].b.kids.length e3] 36)) [.string es[k].a.name, .slice b1 es[k].a.kids.length e1, .string es[k].b.name, .slice b3 es[k].b.kids.length e3] 29 j u hj
    simpa using this
   case na =>
    intro x hx e
    have h1 := (hown.block e).1
    have h2 := hfl x (hsub x hx)
    omega
   case bytes => rw [hl]; omega
   case len => rw [hl]; omega
   case base => simp; omega
   case next =>
    intro v' w4 hown4 hg hv' hs4
    have hb4 := zf hB2 hg (by simp; omega) (fun q hq => (hown.block hq).1)
    have HT := Lib.hid (zaU es k hlt)
    clear hl htk hsl
    go_wp2_with fail
    go_roundw
    case rel =>
     refine ⟨k + 1, fp ++ (g1 ++ g3), by omega, by go_num, ?_, ?_, hb4⟩
     ·rw [HT.out, zeu]; exact hown4
     ·intro x hx
      rcases zer.1 hx with h | h
      ·exact hfp x h
      ·exact hfl x (hsub x h)
    case measure => simp [intOf]; omega
  ·have he : es.take k = es := List.take_of_length_le (by omega)
   rw [he] at hown
   obtain ⟨oa, on, oc, rfl⟩ := hown.form'
   clear he
   go_wp2_with fail
   go_ret
   exact ⟨⟨_, fp, rfl, hown, hfp⟩, hb⟩
theorem sides_any (es : List Eqn) (v : Value) (f : List Nat) (w : World) (hbig : es.length ≤ 1048576) (hv : Rd w (.sl (es.map Eqn.cd)) v f) :
  Calls Tryz.prog 41 #[v] w fun e w' => (∃ rv fp, e = .returned rv ∧ Rd w' (.sl ((zj es).map Tm.cd)) rv fp) ∧ Below w.heap.size w w' := by
 refine (zdZ es v f w hbig hv).mono ?_
 rintro e w' ⟨⟨rv, fp, rfl, ho, _⟩, hb⟩
 obtain ⟨fp', hr⟩ := ho.rd'
 exact ⟨⟨_, fp', rfl, hr⟩, hb⟩
theorem Tm.Ord.nodup {l : List Tm} (h : Tm.Ord l) : l.Nodup := by
 unfold List.Nodup
 rw [List.pairwise_iff_getElem]
 intro i j hi hj hij e
 have := (h j hj).2
 rw [← e] at this
 exact this (List.mem_take_iff_getElem.2 ⟨i, by omega, rfl⟩)
theorem Tm.Ord.kid {l : List Tm} (h : Tm.Ord l) {i : Nat} (hi : i < l.length) {k : Tm} (hk : k ∈ l[i].kids) : k ∈ l := List.mem_of_mem_take ((h i hi).1 k hk)
/-- The place that comes back, where the parts stand in their order. -/
theorem Tm.IsPlace.pos' {l : List Tm} {t : Tm} {n : Int} (h : Tm.IsPlace l t n) (ho : Tm.Ord l) (ht : t ∈ l) : n = (Tm.pos l t : Nat) ∧ Tm.pos l t < l.length := ⟨h.pos ho.nodup ht, (Tm.pos_yes ht).1⟩
namespace Clo
theorem roots_le (n : Nat) (c : List Nat) : roots n c ≤ n := by
 unfold roots
 have := List.countP_le_length (p := fun i => cl c i == i) (l := List.range n)
 rwa [List.length_range] at this
/-- What the loop of congruence keeps: R is what it comes to. -/
def At (ps : List Tm) (R : List Nat × List Stp) (c : List Nat) (st : List Stp) : Prop := ∃ f, roots ps.length c ≤ f ∧ run ps f c st = R
theorem At.start {ps : List Tm} {c : List Nat} {st : List Stp} : At ps (run ps ps.length c st) c st := ⟨_, roots_le _ _, rfl⟩
theorem At.stop {ps : List Tm} {R : List Nat × List Stp} {c : List Nat} {st : List Stp} (h : At ps R c st) (hn : next ps c = none) : R = (c, st) := by
 obtain ⟨f, _, rfl⟩ := h; exact run_none hn f
theorem At.step {ps : List Tm} {R : List Nat × List Stp} {c : List Nat} {st : List Stp} (h : At ps R c st) (hg : Good ps.length c) {k i : Nat} (hn : next ps c = some (k, i)) :
  At ps R (join c k i) (st ++ [⟨k, i, -1⟩]) ∧ Good ps.length (join c k i) ∧ roots ps.length (join c k i) < roots ps.length c := by
 obtain ⟨f, hf, rfl⟩ := h
 obtain ⟨h1, h2, h3⟩ := next_spec hn
 have h4 := za7 hg (by omega) h2 (bad_ne h3)
 obtain ⟨f', rfl⟩ : ∃ f', f = f' + 1 := ⟨f - 1, by omega⟩
 exact ⟨⟨f', by omega, (run_some hn).symm⟩, hg.join (by omega) h2, by omega⟩
/-- What the loop over the given ones keeps. -/
def Gv (ps : List Tm) (es : List Eqn) (R : List Nat × List Stp) (m : Nat) (c : List Nat) (st : List Stp) : Prop := given ps (es.drop m) m c st = R
theorem Gv.start {ps : List Tm} {es : List Eqn} {c : List Nat} {st : List Stp} : Gv ps es (given ps es 0 c st) 0 c st := rfl
theorem Gv.stop {ps : List Tm} {es : List Eqn} {R : List Nat × List Stp} {m : Nat} {c : List Nat} {st : List Stp} (h : Gv ps es R m c st) (hm : es.length ≤ m) : R = (c, st) := by
 unfold Gv at h
 rw [List.drop_eq_nil_of_le hm] at h
 exact h.symm
theorem Gv.same {ps : List Tm} {es : List Eqn} {R : List Nat × List Stp} {m : Nat} {c : List Nat} {st : List Stp} (h : Gv ps es R m c st) (hm : m < es.length) (he : cl c (Tm.pos ps es[m].a) = cl c (Tm.pos ps es[m].b)) : Gv ps es R (m + 1) c st := by
 unfold Gv at h
 rw [List.drop_eq_getElem_cons hm, given, if_pos he] at h
 exact h
theorem Gv.new {ps : List Tm} {es : List Eqn} {R : List Nat × List Stp} {m : Nat} {c : List Nat} {st : List Stp} (h : Gv ps es R m c st) (hm : m < es.length) (he : cl c (Tm.pos ps es[m].a) ≠ cl c (Tm.pos ps es[m].b)) :
  Gv ps es R (m + 1) (join c (Tm.pos ps es[m].a) (Tm.pos ps es[m].b)) (st ++ [⟨Tm.pos ps es[m].a, Tm.pos ps es[m].b, m⟩]) := by
 unfold Gv at h
 rw [List.drop_eq_getElem_cons hm, given, if_neg he] at h
 exact h
theorem close_eq (ps : List Tm) (es : List Eqn) : close ps es = run ps ps.length (given ps es 0 (List.range ps.length) []).1 (given ps es 0 (List.range ps.length) []).2 := rfl
theorem kidsB_len {ps : List Tm} {c : List Nat} : ∀ {xs ys : List Tm}, xs.length ≠ ys.length → kidsB ps c xs ys = false
 | [], [], h => absurd rfl h
 | [], _ :: _, _ => by simp [kidsB]
 | _ :: _, [], _ => by simp [kidsB]
 | x :: xs, y :: ys, h => by
  have := kidsB_len (ps := ps) (c := c) (xs := xs) (ys := ys) (by simpa using h)
  simp [kidsB, this]
theorem kidsB_at {ps : List Tm} {c : List Nat} : ∀ {xs ys : List Tm} {j : Nat} (h1 : j < xs.length) (h2 : j < ys.length), cl c (Tm.pos ps xs[j]) ≠ cl c (Tm.pos ps ys[j]) → kidsB ps c xs ys = false
 | x :: xs, y :: ys, 0, _, _, h => by simp [kidsB]; intro e; exact absurd e (by simpa using h)
 | x :: xs, y :: ys, j + 1, h1, h2, h => by
  have := kidsB_at (ps := ps) (c := c) (xs := xs) (ys := ys) (j := j) (by simpa using h1) (by simpa using h2) (by simpa using h)
  simp [kidsB, this]
theorem kidsB_all {ps : List Tm} {c : List Nat} : ∀ {xs ys : List Tm}, xs.length = ys.length → (∀ j (h1 : j < xs.length) (h2 : j < ys.length), cl c (Tm.pos ps xs[j]) = cl c (Tm.pos ps ys[j])) → kidsB ps c xs ys = true
 | [], [], _, _ => rfl
 | x :: xs, y :: ys, h, h' => by
  have h1 := h' 0 (by simp) (by simp)
  simp only [List.getElem_cons_zero] at h1
  have h2 := kidsB_all (ps := ps) (c := c) (xs := xs) (ys := ys) (by simpa using h) (fun j a b => by have := h' (j + 1) (by simpa using a) (by simpa using b); simpa using this)
  simp [kidsB, h1, h2]
end Clo
/-- l5More. -/
def zar (s : Sg) (es : List Eqn) (ms : List Tm) : Bool := eqsB s es && (ms.all (fun t => (t.tsrt s).isSome) && decide ((Tm.addPs [] (zj es ++ ms)).length ≤ 24))
end Go.Proofs.YtlefdhhnlbpbkaaGreat
end
