/- Parts of the proof: WhyH. -/
import Derived.Deep.RegionHeld3
import Derived.BigQuiet
import Derived.BigRegion
import Derived.Test.YtcfpnjcamcpieaaPw23
import Derived.Test.YtcfpnjcamcpieaaPw19
import Derived.Test.YtcfpnjcamcpieaaPw24
import Derived.Test.YtcfpnjcamcpieaaPw25
section
namespace Go.Proofs.Ytcfpnjcamcpieaa
open Go Go.RowKit
set_option linter.unusedVariables false
set_option linter.unusedSimpArgs false
set_option maxRecDepth 100000
set_option maxHeartbeats 16000000
/-- What comes back: an equation, read where one is told, and whether one is. -/
def zA (lo : Nat) (o : Option Eqn) (w : World) (e : Ending) (w' : World) : Prop := ∃ (n0 : ByteArray) (a1 : Option Addr) (m1 c1 : Nat) (n2 : ByteArray) (a3 : Option Addr) (m3 c3 : Nat), e = .returned (.tuple #[.agg #[.string n0, .slice a1 m1 c1, .string n2, .slice a3 m3 c3], .bool o.isSome]) ∧
 (∀ q, o = some q → ∃ f, RdVs w' q.cd [.string n0, .slice a1 m1 c1, .string n2, .slice a3 m3 c3] f ∧ ∀ b ∈ f, b < lo ∨ w.heap.size ≤ b) ∧ Below w.heap.size w w'
theorem zaB (t : Tm) (v : Value) (w : World) (hv : TmR w t v) : Calls Try.prog 57 #[v] w fun e w' => e = .returned (.bool (zaa t)) ∧ Below w.heap.size w w' := by
 obtain ⟨kv, rfl, hs, hk⟩ := hv
 obtain ⟨a, cap, rfl, hc1, hc2⟩ := hk.form
 have HB : Hid (zaa t = (t.name.toList == [] && ((t.kids.length : Int) == 0))) := Lib.hid rfl
 cases h1 : (t.name.toList == [])
 all_goals
  have H1 := Lib.hid h1
  go_enter Try.func57, Try.ntmps57
  go_wp2_with fail
  go_ret
  exact ⟨retB (by rw [HB.out, H1.out]; first | rfl | simp | (simp [Bool.beq_eq_decide_eq])), zb _ _⟩
theorem zi {w w' : World} {lo : Nat} {o : Option Eqn} (h : o = none) (hb : Below w.heap.size w w') : zA lo o w (.returned (.tuple #[.agg #[.string ⟨#[]⟩, .slice none 0 0, .string ⟨#[]⟩, .slice none 0 0], .bool false])) w' := by
 subst h; exact ⟨_, _, _, _, _, _, _, _, rfl, (fun q hq => by cases hq), hb⟩
theorem zS {w w' : World} {lo : Nat} {o : Option Eqn} {q : Eqn} {b : Bool} {n0 n2 : ByteArray} {a1 a3 : Option Addr} {m1 c1 m3 c3 : Nat} {f : List Nat} (h : o = if b = true then some q else none) (hr : RdVs w' q.cd [.string n0, .slice a1 m1 c1, .string n2, .slice a3 m3 c3] f) (hf : ∀ b ∈ f, b < lo ∨ w.heap.size ≤ b) (hb : Below w.heap.size w w') :
  zA lo o w (.returned (.tuple #[.agg #[.string n0, .slice a1 m1 c1, .string n2, .slice a3 m3 c3], .bool b])) w' := by
 subst h
 refine ⟨_, _, _, _, _, _, _, _, by cases b <;> rfl, (fun p hp => ?_), hb⟩
 cases b
 ·simp at hp
 ·simp at hp; subst hp; exact ⟨f, hr, hf⟩
theorem zaR {w : World} {r : Nat} {v0 v1 v2 v3 : Value} (b : Nat) (h : b ≠ r) : ((((w.setCell ⟨r, 0, none⟩ v0).setCell ⟨r, 1, none⟩ v1).setCell ⟨r, 2, none⟩ v2).setCell ⟨r, 3, none⟩ v3).heap[b]? = w.heap[b]? :=
 (Below.heap_setCell _ _ _ _ h).trans ((Below.heap_setCell _ _ _ _ h).trans ((Below.heap_setCell _ _ _ _ h).trans (Below.heap_setCell _ _ _ _ h)))
theorem so4 {w : World} {r b j : Nat} {v0 v1 v2 v3 u : Value} (h : b ≠ r) (hc : w.cell? ⟨b, j, none⟩ = some u) : ((((w.setCell ⟨r, 0, none⟩ v0).setCell ⟨r, 1, none⟩ v1).setCell ⟨r, 2, none⟩ v2).setCell ⟨r, 3, none⟩ v3).cell? ⟨b, j, none⟩ = some u :=
 zD (zaR b h) hc
theorem zau {w : World} {base lo hi e k : Nat} {v : Value} {es : List (List CD)} {fp : List Nat} (h : Own w base e k v es fp) (hf : ∀ b ∈ fp, b < lo ∨ hi ≤ b) (hb : hi ≤ base := by omega) : ∃ fq, Rd w (.sl es) v fq ∧ ∀ b ∈ fq, b < lo ∨ hi ≤ b := by
 obtain ⟨fq, h1, h2⟩ := h.rd
 refine ⟨fq, h1, fun b hb' => ?_⟩
 rcases h2 with ⟨_, _, rfl⟩ | ⟨g, c, _, rfl, _, h3, _⟩
 ·cases hb'
 ·rcases zda.1 hb' with rfl | h4
  ·right; omega
  ·exact hf b h4
theorem wf_name {n : ByteArray} {ks : List Tm} (h : zaf n = false) : (Tm.mk n ks).wf = false := by
 unfold Tm.wf
 rw [Tm.shape_eq]
 simp [Tm.name, h]
theorem zbW {w : World} {n : ByteArray} {l : List Eqn} {ga ja : Option Addr} {gc jc : Nat} {fra frb : List Nat} (m2 : n.size ≤ maxLen) (h1 : Rd w (.sl ((l.map Eqn.a).map Tm.cd)) (.slice ga l.length gc) fra) (h2 : Rd w (.sl ((l.map Eqn.b).map Tm.cd)) (.slice ja l.length jc) frb) :
  RdVs w (Eqn.mk (.mk n (l.map Eqn.a)) (.mk n (l.map Eqn.b))).cd [.string n, .slice ga l.length gc, .string n, .slice ja l.length jc] (fra ++ frb) := by
 have e1 : (Eqn.mk (.mk n (l.map Eqn.a)) (.mk n (l.map Eqn.b))).a.kids.length = l.length := by simp [Tm.kids]
 have e2 : (Eqn.mk (.mk n (l.map Eqn.a)) (.mk n (l.map Eqn.b))).b.kids.length = l.length := by simp [Tm.kids]
 have h := Eqn.close (x := ⟨.mk n (l.map Eqn.a), .mk n (l.map Eqn.b)⟩) (a1 := ga) (c1 := gc) (f1 := fra) (a3 := ja) (c3 := jc) (f3 := frb) m2 (by rw [e1]; exact h1) m2 (by rw [e2]; exact h2)
 rw [e1, e2] at h
 exact h
end Go.Proofs.Ytcfpnjcamcpieaa
end
