/- Parts of the proof: Eqs. -/
import Derived.Deep.RegionHeld3
import Derived.Test.YtcfpnjcamcpieaaPw18
import Derived.Test.YtcfpnjcamcpieaaPw20
section
namespace Go.Proofs.Ytcfpnjcamcpieaa
open Go Go.RowKit
set_option linter.unusedVariables false
set_option linter.unusedSimpArgs false
set_option maxRecDepth 100000
set_option maxHeartbeats 16000000
def zo (es : List Eqn) : List Tm := es.flatMap (fun e => [e.a, e.b])
theorem zaQ (es : List Eqn) (k : Nat) (h : k < es.length) : zo (es.take (k + 1)) = zo (es.take k) ++ [es[k].a, es[k].b] := by
 rw [zc5 h, zo, List.flatMap_append]; simp [zo]
theorem zbL : ∀ (es : List Eqn), (zo es).length = 2 * es.length
 | [] => rfl
 | e :: es => by have := zbL es; simp only [zo, List.flatMap_cons, zc8, List.length_cons, List.length_nil] at *; omega
def Eqn.okB (s : Sg) (e : Eqn) : Bool := match e.a.tsrt s, e.b.tsrt s with | some m, some n => m == n | _, _ => false
theorem Eqn.okB_a {s : Sg} {e : Eqn} (h : e.a.tsrt s = none) : e.okB s = false := by simp [Eqn.okB, h]
theorem Eqn.okB_b {s : Sg} {e : Eqn} (h : e.b.tsrt s = none) : e.okB s = false := by unfold Eqn.okB; rw [h]; split <;> simp_all
theorem Eqn.okB_ab {s : Sg} {e : Eqn} {m n : Int} (h : e.a.tsrt s = some m) (h' : e.b.tsrt s = some n) : e.okB s = (m == n) := by simp [Eqn.okB, h, h']
theorem Eqn.okB_wf {s : Sg} {e : Eqn} (h : e.okB s = true) : e.a.wf = true ∧ e.b.wf = true := by
 constructor
 ·cases hw : e.a.wf with
  | true => rfl
  | false => rw [Eqn.okB_a (Tm.tsrt_bad hw)] at h; simp at h
 ·cases hw : e.b.wf with
  | true => rfl
  | false => rw [Eqn.okB_b (Tm.tsrt_bad hw)] at h; simp at h
def eqsB (s : Sg) (es : List Eqn) : Bool := s.okB && (decide (es.length ≤ 12) && (es.all (Eqn.okB s) && decide ((Tm.addPs [] (zo es)).length ≤ 24)))
theorem eqsB_sig {s : Sg} {es : List Eqn} (h : s.okB = false) : eqsB s es = false := by simp [eqsB, h]
theorem zcy {s : Sg} {es : List Eqn} (h : ¬ es.length ≤ 12) : eqsB s es = false := by simp [eqsB, h]
theorem zbi {s : Sg} {es : List Eqn} {k : Nat} (hk : k < es.length) (h : es[k].okB s = false) : eqsB s es = false := by
 have : es.all (Eqn.okB s) = false := by rw [List.all_eq_false]; exact ⟨es[k], zc7 hk, by simp [h]⟩
 simp only [eqsB, this, Bool.false_and, Bool.and_false]
theorem eqsB_all {s : Sg} {es : List Eqn} {k : Nat} (h1 : s.okB = true) (h2 : es.length ≤ 12) (hk : es.length ≤ k) (h : ∀ j, j < k → ∀ (hj : j < es.length), es[j].okB s = true) : eqsB s es = decide ((Tm.addPs [] (zo es)).length ≤ 24) := by
 have : es.all (Eqn.okB s) = true := by
  rw [List.all_eq_true]; intro e he
  obtain ⟨j, hj, rfl⟩ := List.getElem_of_mem he
  exact h j (by omega) hj
 simp only [eqsB, h1, decide_eq_true h2, this, Bool.true_and]
theorem zcz {s : Sg} {es : List Eqn} {k : Nat} (hk : es.length ≤ k) (h : ∀ j, j < k → ∀ (hj : j < es.length), es[j].okB s = true) : (zo es).all Tm.wf = true := by
 rw [List.all_eq_true]; intro t ht
 simp only [zo, List.mem_flatMap] at ht
 obtain ⟨e, he, ht⟩ := ht
 obtain ⟨j, hj, rfl⟩ := List.getElem_of_mem he
 have := Eqn.okB_wf (h j (by omega) hj)
 simp only [zda, List.not_mem_nil, or_false] at ht
 rcases ht with rfl | rfl
 ·exact this.1
 ·exact this.2
theorem zcM (s : Sg) (q : Eqn) (us vs : List Value) (f f' : List Nat) (w : World) (hx : RdVs w q.cd us f') (hv : RdVs w s.cd vs f) :
  Calls Try.prog 54 #[.agg us.toArray, .agg vs.toArray] w fun e w' => e = .returned (.bool (q.okB s)) ∧ Below w.heap.size w w' := by
 obtain ⟨a0, c0, f0, rfl, _, m0⟩ := Sg.open hv
 obtain ⟨b1, e1, g1, b3, e3, g3, rfl, _, t0, t1, t2, t3⟩ := Eqn.open hx
 go_enter Try.func54, Try.ntmps54
 go_wp2_with fail
 refine (zbe s q.a _ _ _ _ _ (by exact hv.below (((Below.refl _ _).alloc (Nat.le_refl _) _).alloc (by simp) _)) (by exact (Tm.rdv t0 t1).below (((Below.refl _ _).alloc (Nat.le_refl _) _).alloc (by simp) _))).mono ?_
 rintro e w1 ⟨rfl, hb1⟩
 obtain ⟨hxL, hyL, hzL, hBL⟩ := box2 (w := w) (wr := w1) (cs := #[.string q.a.name, .slice b1 q.a.kids.length e1, .string q.b.name, .slice b3 q.b.kids.length e3]) (ds := #[.slice a0 s.syms.length c0]) (T := 39) (U := 44) (zm hb1 (by simp))
 have cx2 := hxL 2
 have cx3 := hxL 3
 have cy0 := hyL 0
 simp only [zc3, zc1, zc2] at cx2 cx3 cy0
 clear hxL hyL hb1
 have H1 : Hid (∃ o, q.a.tsrt s = o) := Lib.hid ⟨_, rfl⟩
 obtain ⟨o1, ho1⟩ := H1.out
 have HO1 := Lib.hid ho1
 rw [ho1]
 clear ho1 H1
 go_wp2_with fail
 refine (zbe s q.b _ _ _ _ _ (hv.below hBL) ((Tm.rdv t2 t3).below hBL)).mono ?_
 rintro e w2 ⟨rfl, hb2⟩
 have hB2 := hBL.trans (hb2.mono hBL.size)
 clear hb2
 cases o1 with
 | none =>
  have HF := Lib.hid (Eqn.okB_a HO1.out)
  simp only [Option.getD_none, Option.isSome_none]
  go_wp2_with fail
  go_ret
  exact ⟨retB HF.out.symm, hB2⟩
 | some m =>
  simp only [Option.getD_some, Option.isSome_some]
  cases ho2 : q.b.tsrt s with
  | none =>
   have HF := Lib.hid (Eqn.okB_b ho2)
   clear ho2
   simp only [Option.getD_none, Option.isSome_none]
   go_wp2_with fail
   go_ret
   exact ⟨retB HF.out.symm, hB2⟩
  | some n =>
   have HF := Lib.hid (Eqn.okB_ab HO1.out ho2)
   clear ho2
   simp only [Option.getD_some, Option.isSome_some]
   go_wp2_with fail
   go_ret
   exact ⟨retB (by rw [HF.out]; try rfl), hB2⟩
theorem zcN (es : List Eqn) (v : Value) (f : List Nat) (w : World) (hbig : es.length ≤ 1048576) (hv : Rd w (.sl (es.map Eqn.cd)) v f) :
  Calls Try.prog 56 #[v] w fun e w' => (∃ rv fp, e = .returned rv ∧ Own w' w.heap.size 37 2 rv ((zo es).map Tm.cd) fp ∧ ∀ b ∈ fp, b < w.heap.size) ∧ Below w.heap.size w w' := by
 obtain ⟨a, cap, rfl, hc1, hc2⟩ := ze hv
 go_enter Try.func56, Try.ntmps56
 go_wp2_with fail
 go_loopw [3, 8] (fun ov i wr => ∃ (k : Nat) (fp : List Nat), k ≤ es.length ∧ i = .int .i64 k ∧ Own wr w.heap.size 37 2 ov ((zo (es.take k)).map Tm.cd) fp ∧ (∀ b ∈ fp, b < w.heap.size) ∧ Below w.heap.size w wr) (fun _ i _ => es.length - (intOf i).toNat)
 case atStart => exact ⟨0, [], Nat.zero_le _, rfl, Own.nil _ _ _ _, by simp, Below.refl _ _⟩
 case round =>
  obtain ⟨k, fp, hkl, rfl, hown, hfp, hb⟩ := hrel
  have hz := hb.size
  by_cases hlt : k < es.length
  ·obtain ⟨b, off, rfl, hbs, _⟩ := zk hv (by omega)
   have hbz : b < wr.heap.size := by omega
   obtain ⟨b1, e1, g1, b3, e3, g3, d0', d1', d2', d3', t0, t1, t2, t3, hsub⟩ := Eqn.at hv hlt
   have d0 := zc d0' hb
   have d1 := zc d1' hb
   have d2 := zc d2' hb
   have d3 := zc d3' hb
   have hfl := hv.lt _
   have hnews : RdVs w [es[k].a.cd, es[k].b.cd].flatten [.string es[k].a.name, .slice b1 es[k].a.kids.length e1, .string es[k].b.name, .slice b3 es[k].b.kids.length e3] (g1 ++ g3) := by
    have := (Tm.rdv t0 t1).app (Tm.rdv t2 t3)
    simpa using this
   have hsl := zbL (es.take k)
   have htk : (es.take k).length = k := by rw [List.length_take]; omega
   have hBA : Below wr.heap.size wr ((wr.alloc (.cells #[.string es[k].a.name, .slice b1 es[k].a.kids.length e1, .string es[k].b.name, .slice b3 es[k].b.kids.length e3] 39)).alloc (.cells #[.string es[k].a.name, .slice b1 es[k].a.kids.length e1, .string es[k].b.name, .slice b3 es[k].b.kids.length e3] 37)) := ((Below.refl _ _).alloc (Nat.le_refl _) _).alloc (by simp) _
   have hB2 := hb.trans (hBA.mono hz)
   have hl : ((zo (es.take k)).map Tm.cd).length = 2 * k := by rw [zdb, hsl, htk]
   go_wp2_with (at_builtin; refine zy zar rfl _ _ rfl w.heap.size _ _ _ rfl (hown.below hBA) ⟨wr.heap.size + 1, 0, none⟩ 2 2 [es[k].a.cd, es[k].b.cd] [.string es[k].a.name, .slice b1 es[k].a.kids.length e1, .string es[k].b.name, .slice b3 es[k].b.kids.length e3] (g1 ++ g3) rfl rfl (hnews.below hB2) ?k ?cells ?na ?bytes ?len ?base ?next)
   case k => simp [Tm.cd_len]
   case cells =>
    intro j u hj
    have := zB (wr.alloc (.cells #[.string es[k].a.name, .slice b1 es[k].a.kids.length e1, .string es[k].b.name, .slice b3 es[k].b.kids.length e3] 39)) [.string es[k].a.name, .slice b1 es[k].a.kids.length e1, .string es[k].b.name, .slice b3 es[k].b.kids.length e3] 37 j u hj
    simpa using this
   case na =>
    intro x hx e
    have h1 := (hown.block e).1
    have h2 := hfl x (hsub x hx)
    omega
   case bytes => rw [hl]; omega
   case len => rw [hl]; omega
   case base => simp; omega
   case next =>
    intro v' w4 hown4 hg hv' hs4
    have hb4 := zh hB2 hg (by simp; omega) (fun q hq => (hown.block hq).1)
    have HT := Lib.hid (zaQ es k hlt)
    clear hl htk hsl
    go_wp2_with fail
    go_roundw
    case rel =>
     refine ⟨k + 1, fp ++ (g1 ++ g3), by omega, by go_num, ?_, ?_, hb4⟩
     ·rw [HT.out, zc9]; exact hown4
     ·intro x hx
      rcases zc6.1 hx with h | h
      ·exact hfp x h
      ·exact hfl x (hsub x h)
    case measure => simp [intOf]; omega
  ·have he : es.take k = es := List.take_of_length_le (by omega)
   rw [he] at hown
   obtain ⟨oa, on, oc, rfl⟩ := hown.form'
   clear he
   go_wp2_with fail
   go_ret
   exact ⟨⟨_, fp, rfl, hown, hfp⟩, hb⟩
theorem sides_any (es : List Eqn) (v : Value) (f : List Nat) (w : World) (hbig : es.length ≤ 1048576) (hv : Rd w (.sl (es.map Eqn.cd)) v f) :
  Calls Try.prog 56 #[v] w fun e w' => (∃ rv fp, e = .returned rv ∧ Rd w' (.sl ((zo es).map Tm.cd)) rv fp) ∧ Below w.heap.size w w' := by
 refine (zcN es v f w hbig hv).mono ?_
 rintro e w' ⟨⟨rv, fp, rfl, ho, _⟩, hb⟩
 obtain ⟨fp', hr⟩ := ho.rd'
 exact ⟨⟨_, fp', rfl, hr⟩, hb⟩
end Go.Proofs.Ytcfpnjcamcpieaa
end
