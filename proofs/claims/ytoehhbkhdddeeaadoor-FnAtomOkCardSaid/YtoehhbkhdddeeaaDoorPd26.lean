/- Parts of the proof: Eqs. -/
import Derived.Deep.RegionHeld3
import Derived.Test.YtoehhbkhdddeeaaDoorPd25
import Derived.Test.YtoehhbkhdddeeaaDoorPd15
section
namespace Go.Proofs.YtoehhbkhdddeeaaDoor
open Go Go.RowKit
set_option linter.unusedVariables false
set_option linter.unusedSimpArgs false
set_option maxRecDepth 100000
set_option maxHeartbeats 16000000
def Eqn.okB (s : Sg) (e : Eqn) : Bool := match e.a.tsrt s, e.b.tsrt s with | some m, some n => m == n | _, _ => false
theorem Eqn.okB_a {s : Sg} {e : Eqn} (h : e.a.tsrt s = none) : e.okB s = false := by simp [Eqn.okB, h]
theorem Eqn.okB_b {s : Sg} {e : Eqn} (h : e.b.tsrt s = none) : e.okB s = false := by unfold Eqn.okB; rw [h]; split <;> simp_all
theorem Eqn.okB_ab {s : Sg} {e : Eqn} {m n : Int} (h : e.a.tsrt s = some m) (h' : e.b.tsrt s = some n) : e.okB s = (m == n) := by simp [Eqn.okB, h, h']
theorem zb6 (s : Sg) (q : Eqn) (us vs : List Value) (f f' : List Nat) (w : World) (hx : RdVs w q.cd us f') (hv : RdVs w s.cd vs f) :
  Calls Tryd.prog 40 #[.agg us.toArray, .agg vs.toArray] w fun e w' => e = .returned (.bool (q.okB s)) ∧ Below w.heap.size w w' := by
 obtain ⟨a0, c0, f0, rfl, _, m0⟩ := Sg.open hv
 obtain ⟨b1, e1, g1, b3, e3, g3, rfl, _, t0, t1, t2, t3⟩ := Eqn.open hx
 go_enter Tryd.func40, Tryd.ntmps40
 go_wp2_with fail
 refine (zR s q.a _ _ _ _ _ (by exact hv.below (((Below.refl _ _).alloc (Nat.le_refl _) _).alloc (by simp) _)) (by exact (Tm.rdv t0 t1).below (((Below.refl _ _).alloc (Nat.le_refl _) _).alloc (by simp) _))).mono ?_
 rintro e w1 ⟨rfl, hb1⟩
 obtain ⟨hxL, hyL, hzL, hBL⟩ := box2 (w := w) (wr := w1) (cs := #[.string q.a.name, .slice b1 q.a.kids.length e1, .string q.b.name, .slice b3 q.b.kids.length e3]) (ds := #[.slice a0 s.syms.length c0]) (T := 81) (U := 40) (zu hb1 (by simp))
 have cx2 := hxL 2
 have cx3 := hxL 3
 have cy0 := hyL 0
 simp only [zch, zcf, zcg] at cx2 cx3 cy0
 clear hxL hyL hb1
 have H1 : Hid (∃ o, q.a.tsrt s = o) := Lib.hid ⟨_, rfl⟩
 obtain ⟨o1, ho1⟩ := H1.out
 have HO1 := Lib.hid ho1
 rw [ho1]
 clear ho1 H1
 go_wp2_with fail
 refine (zR s q.b _ _ _ _ _ (hv.below hBL) ((Tm.rdv t2 t3).below hBL)).mono ?_
 rintro e w2 ⟨rfl, hb2⟩
 have hB2 := hBL.trans (hb2.mono hBL.size)
 clear hb2
 cases o1 with
 | none =>
  have HF := Lib.hid (Eqn.okB_a HO1.out)
  simp only [Option.getD_none, Option.isSome_none]
  go_wp2_with fail
  go_ret
  exact ⟨retB HF.out.symm, hB2⟩
 | some m =>
  simp only [Option.getD_some, Option.isSome_some]
  cases ho2 : q.b.tsrt s with
  | none =>
   have HF := Lib.hid (Eqn.okB_b ho2)
   clear ho2
   simp only [Option.getD_none, Option.isSome_none]
   go_wp2_with fail
   go_ret
   exact ⟨retB HF.out.symm, hB2⟩
  | some n =>
   have HF := Lib.hid (Eqn.okB_ab HO1.out ho2)
   clear ho2
   simp only [Option.getD_some, Option.isSome_some]
   go_wp2_with fail
   go_ret
   exact ⟨retB (by rw [HF.out]; try rfl), hB2⟩
end Go.Proofs.YtoehhbkhdddeeaaDoor
end
