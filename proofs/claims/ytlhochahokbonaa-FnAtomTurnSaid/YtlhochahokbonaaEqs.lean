/- Chapter 5's EqsOk, both. -/
import Derived.Deep.RegionHeld3
import Derived.Test.YtlhochahokbonaaSig4
import Derived.Test.YtlhochahokbonaaTermP
namespace Go.Proofs.Ytlhochahokbonaa
open Go Go.RowKit
set_option linter.unusedVariables false
set_option linter.unusedSimpArgs false

def sidesP (es : List Eqn) : List Tm := es.flatMap (fun e => [e.a, e.b])
theorem sidesP_succ (es : List Eqn) (k : Nat) (h : k < es.length) : sidesP (es.take (k + 1)) = sidesP (es.take k) ++ [es[k].a, es[k].b] := by
  rw [List.take_succ_eq_append_getElem h, sidesP, List.flatMap_append]; simp [sidesP]
theorem sidesP_len : ∀ (es : List Eqn), (sidesP es).length = 2 * es.length
  | [] => rfl
  | e :: es => by have := sidesP_len es; simp only [sidesP, List.flatMap_cons, List.length_append, List.length_cons, List.length_nil] at *; omega
def Eqn.okB (s : Sg) (e : Eqn) : Bool := match e.a.tsrt s, e.b.tsrt s with | some m, some n => m == n | _, _ => false
theorem Eqn.okB_a {s : Sg} {e : Eqn} (h : e.a.tsrt s = none) : e.okB s = false := by simp [Eqn.okB, h]
theorem Eqn.okB_b {s : Sg} {e : Eqn} (h : e.b.tsrt s = none) : e.okB s = false := by unfold Eqn.okB; rw [h]; split <;> simp_all
theorem Eqn.okB_ab {s : Sg} {e : Eqn} {m n : Int} (h : e.a.tsrt s = some m) (h' : e.b.tsrt s = some n) : e.okB s = (m == n) := by simp [Eqn.okB, h, h']
theorem Eqn.okB_wf {s : Sg} {e : Eqn} (h : e.okB s = true) : e.a.wf = true ∧ e.b.wf = true := by
  constructor
  · cases hw : e.a.wf with
    | true => rfl
    | false => rw [Eqn.okB_a (Tm.tsrt_bad hw)] at h; simp at h
  · cases hw : e.b.wf with
    | true => rfl
    | false => rw [Eqn.okB_b (Tm.tsrt_bad hw)] at h; simp at h
def eqsB (s : Sg) (es : List Eqn) : Bool := s.okB && (decide (es.length ≤ 12) && (es.all (Eqn.okB s) && decide ((Tm.addPs [] (sidesP es)).length ≤ 24)))
theorem eqsB_sig {s : Sg} {es : List Eqn} (h : s.okB = false) : eqsB s es = false := by simp [eqsB, h]
theorem eqsB_len {s : Sg} {es : List Eqn} (h : ¬ es.length ≤ 12) : eqsB s es = false := by simp [eqsB, h]
theorem eqsB_one {s : Sg} {es : List Eqn} {k : Nat} (hk : k < es.length) (h : es[k].okB s = false) : eqsB s es = false := by
  have : es.all (Eqn.okB s) = false := by rw [List.all_eq_false]; exact ⟨es[k], List.getElem_mem hk, by simp [h]⟩
  simp only [eqsB, this, Bool.false_and, Bool.and_false]
theorem eqsB_all {s : Sg} {es : List Eqn} {k : Nat} (h1 : s.okB = true) (h2 : es.length ≤ 12) (hk : es.length ≤ k) (h : ∀ j, j < k → ∀ (hj : j < es.length), es[j].okB s = true) : eqsB s es = decide ((Tm.addPs [] (sidesP es)).length ≤ 24) := by
  have : es.all (Eqn.okB s) = true := by
    rw [List.all_eq_true]; intro e he
    obtain ⟨j, hj, rfl⟩ := List.getElem_of_mem he
    exact h j (by omega) hj
  simp only [eqsB, h1, decide_eq_true h2, this, Bool.true_and]
theorem sides_wf {s : Sg} {es : List Eqn} {k : Nat} (hk : es.length ≤ k) (h : ∀ j, j < k → ∀ (hj : j < es.length), es[j].okB s = true) : (sidesP es).all Tm.wf = true := by
  rw [List.all_eq_true]; intro t ht
  simp only [sidesP, List.mem_flatMap] at ht
  obtain ⟨e, he, ht⟩ := ht
  obtain ⟨j, hj, rfl⟩ := List.getElem_of_mem he
  have := Eqn.okB_wf (h j (by omega) hj)
  simp only [List.mem_cons, List.not_mem_nil, or_false] at ht
  rcases ht with rfl | rfl
  · exact this.1
  · exact this.2

set_option maxHeartbeats 1000000 in
theorem sorted_any (s : Sg) (q : Eqn) (us vs : List Value) (f f' : List Nat) (w : World) (hx : RdVs w q.cd us f') (hv : RdVs w s.cd vs f) :
    Calls Try.prog 28 #[.agg us.toArray, .agg vs.toArray] w fun e w' => e = .returned (.bool (q.okB s)) ∧ Below w.heap.size w w' := by
  obtain ⟨a0, c0, f0, rfl, _, m0⟩ := Sg.open hv
  obtain ⟨b1, e1, g1, b3, e3, g3, rfl, _, t0, t1, t2, t3⟩ := Eqn.open hx
  go_enter Try.func28, Try.ntmps28
  go_wp2_with fail
  refine (termSort_any s q.a _ _ _ _ _ (by exact hv.below (((Below.refl _ _).alloc (Nat.le_refl _) _).alloc (by simp) _)) (by exact (Tm.rdv t0 t1).below (((Below.refl _ _).alloc (Nat.le_refl _) _).alloc (by simp) _))).mono ?_
  rintro e w1 ⟨rfl, hb1⟩
  obtain ⟨hxL, hyL, hzL, hBL⟩ := box2 (w := w) (wr := w1) (cs := #[.string q.a.name, .slice b1 q.a.kids.length e1, .string q.b.name, .slice b3 q.b.kids.length e3]) (ds := #[.slice a0 s.syms.length c0]) (T := 62) (U := 25) (below_size hb1 (by simp))
  have cx2 := hxL 2
  have cx3 := hxL 3
  have cy0 := hyL 0
  simp only [List.getElem?_toArray, List.getElem?_cons_zero, List.getElem?_cons_succ] at cx2 cx3 cy0
  clear hxL hyL hb1
  have H1 : Hid (∃ o, q.a.tsrt s = o) := Lib.hid ⟨_, rfl⟩
  obtain ⟨o1, ho1⟩ := H1.out
  have HO1 := Lib.hid ho1
  rw [ho1]
  clear ho1 H1
  go_wp2_with fail
  refine (termSort_any s q.b _ _ _ _ _ (hv.below hBL) ((Tm.rdv t2 t3).below hBL)).mono ?_
  rintro e w2 ⟨rfl, hb2⟩
  have hB2 := hBL.trans (hb2.mono hBL.size)
  clear hb2
  cases o1 with
  | none =>
    have HF := Lib.hid (Eqn.okB_a HO1.out)
    simp only [Option.getD_none, Option.isSome_none]
    go_wp2_with fail
    go_ret
    exact ⟨retB HF.out.symm, hB2⟩
  | some m =>
    simp only [Option.getD_some, Option.isSome_some]
    cases ho2 : q.b.tsrt s with
    | none =>
      have HF := Lib.hid (Eqn.okB_b ho2)
      clear ho2
      simp only [Option.getD_none, Option.isSome_none]
      go_wp2_with fail
      go_ret
      exact ⟨retB HF.out.symm, hB2⟩
    | some n =>
      have HF := Lib.hid (Eqn.okB_ab HO1.out ho2)
      clear ho2
      simp only [Option.getD_some, Option.isSome_some]
      go_wp2_with fail
      go_ret
      exact ⟨retB (by rw [HF.out]; try rfl), hB2⟩

end Go.Proofs.Ytlhochahokbonaa
