/- Parts of the proof: PutA. -/
import Derived.Deep.RegionHeld3
import Derived.Deep.CutRange
import Derived.BigQuiet
import Derived.Test.YtoehhbkhdddeeaaDoorPl17
import Derived.Test.YtoehhbkhdddeeaaDoorPl18
import Derived.Test.YtoehhbkhdddeeaaDoorPl15
section
namespace Go.Proofs.YtoehhbkhdddeeaaDoor
open Go Go.RowKit
set_option linter.unusedVariables false
set_option linter.unusedSimpArgs false
set_option maxRecDepth 100000
set_option maxHeartbeats 16000000
theorem zbX {w wr : World} {cs ds es : List Value} {T U V : TypeId} (hb : Below (w.heap.size + 1 + 1 + 1) (((w.alloc (.cells cs.toArray T)).alloc (.cells ds.toArray U)).alloc (.cells es.toArray V)) wr) :
  (∀ j x, cs[j]? = some x → wr.cell? ⟨w.heap.size, j, none⟩ = some x) ∧ (∀ j x, ds[j]? = some x → wr.cell? ⟨w.heap.size + 1, j, none⟩ = some x) ∧ (∀ j x, es[j]? = some x → wr.cell? ⟨w.heap.size + 1 + 1, j, none⟩ = some x) ∧
  (∀ j, wr.frozen? ⟨w.heap.size + 1 + 1, j, none⟩ = false) ∧ w.heap.size + 1 + 1 + 1 ≤ wr.heap.size ∧ Below w.heap.size w wr := by
 have hs : (((w.alloc (.cells cs.toArray T)).alloc (.cells ds.toArray U)).alloc (.cells es.toArray V)).heap.size = w.heap.size + 1 + 1 + 1 := by simp
 have hb' : Below (((w.alloc (.cells cs.toArray T)).alloc (.cells ds.toArray U)).alloc (.cells es.toArray V)).heap.size (((w.alloc (.cells cs.toArray T)).alloc (.cells ds.toArray U)).alloc (.cells es.toArray V)) wr := by rw [hs]; exact hb
 have h2 := zm (w.alloc (.cells cs.toArray T)) ds U
 have h3 := zm ((w.alloc (.cells cs.toArray T)).alloc (.cells ds.toArray U)) es V
 have h4 := zZ ((w.alloc (.cells cs.toArray T)).alloc (.cells ds.toArray U)) es.toArray V
 rw [World.size_alloc] at h2
 rw [World.size_alloc, World.size_alloc] at h3 h4
 refine ⟨fun j x hx => za (zaE (zaE (zm w cs T j x hx))) hb', fun j x hx => za (zaE (h2 j x hx)) hb', fun j x hx => za (h3 j x hx) hb', fun j => (zd (hb'.block _ (by rw [hs]; omega))).trans (h4 j), by have := hb'.size; omega, ?_⟩
 exact ((((Below.refl _ _).alloc (Nat.le_refl _) _).alloc (by simp) _).alloc (by simp; omega) _).trans (hb.mono (by omega))
/-- In the midst of l6Put: the new sum in its box, its rows the call's own. -/
structure PutSt (w W3 U : World) (kind bound : Int) (strict : Bool) (ns : List Tm) (ts : List Int) (vn vt : Value) (fn : List Nat) : Prop where
 bel : Below (w.heap.size + 1 + 1 + 1) W3 U
 c0 : U.cell? ⟨w.heap.size + 1 + 1 + 1, 0, none⟩ = some (.int .i64 kind)
 c1 : U.cell? ⟨w.heap.size + 1 + 1 + 1, 1, none⟩ = some (.string ⟨#[]⟩)
 c2 : U.cell? ⟨w.heap.size + 1 + 1 + 1, 2, none⟩ = some (.slice none 0 0)
 c3 : U.cell? ⟨w.heap.size + 1 + 1 + 1, 3, none⟩ = some (.string ⟨#[]⟩)
 c4 : U.cell? ⟨w.heap.size + 1 + 1 + 1, 4, none⟩ = some (.slice none 0 0)
 c5 : U.cell? ⟨w.heap.size + 1 + 1 + 1, 5, none⟩ = some vn
 c6 : U.cell? ⟨w.heap.size + 1 + 1 + 1, 6, none⟩ = some vt
 c7 : U.cell? ⟨w.heap.size + 1 + 1 + 1, 7, none⟩ = some (.int .i64 bound)
 c8 : U.cell? ⟨w.heap.size + 1 + 1 + 1, 8, none⟩ = some (.bool strict)
 z5 : U.frozen? ⟨w.heap.size + 1 + 1 + 1, 5, none⟩ = false
 z6 : U.frozen? ⟨w.heap.size + 1 + 1 + 1, 6, none⟩ = false
 own1 : Own U (w.heap.size + 1 + 1 + 1 + 1) 25 2 vn (ns.map Tm.cd) fn
 own2 : Own U (w.heap.size + 1 + 1 + 1 + 1) 3 1 vt (ts.map zg) []
 dj : ∀ g, vn.ownBlock = some g → vt.ownBlock ≠ some g
 fl : ∀ b ∈ fn, b < w.heap.size
 sz : w.heap.size + 1 + 1 + 1 + 1 ≤ U.heap.size
theorem PutSt.below {w W3 U U' : World} {kind bound : Int} {strict : Bool} {ns : List Tm} {ts : List Int} {vn vt : Value} {fn : List Nat} (h : PutSt w W3 U kind bound strict ns ts vn vt fn) (hb : Below U.heap.size U U') : PutSt w W3 U' kind bound strict ns ts vn vt fn := by
 have hz := h.sz
 have hs := hb.size
 exact ⟨h.bel.trans (hb.mono (by omega)), za h.c0 hb, za h.c1 hb, za h.c2 hb, za h.c3 hb, za h.c4 hb, za h.c5 hb, za h.c6 hb, za h.c7 hb, za h.c8 hb, (zd (hb.block _ (by omega))).trans h.z5, (zd (hb.block _ (by omega))).trans h.z6, h.own1.below hb, h.own2.below hb, h.dj, h.fl, by omega⟩
/-- Behind an append to the terms. -/
theorem PutSt.nums {w W3 U w' : World} {kind bound : Int} {strict : Bool} {ns ns' : List Tm} {ts : List Int} {vn vt v' : Value} {fn fn' : List Nat} (h : PutSt w W3 U kind bound strict ns ts vn vt fn) (hg : U.grownBy w' vn.ownBlock) (ho : Own w' (w.heap.size + 1 + 1 + 1 + 1) 25 2 v' (ns'.map Tm.cd) fn')
  (hv : ∀ b, v'.ownBlock = some b → vn.ownBlock = some b ∨ U.heap.size ≤ b) (hf : ∀ b ∈ fn', b < w.heap.size) : PutSt w W3 (w'.setCell ⟨w.heap.size + 1 + 1 + 1, 5, none⟩ v') kind bound strict ns' ts v' vt fn' := by
 have hz := h.sz
 have hs := hg.size
 have hr : ∀ q, vn.ownBlock = some q → w.heap.size + 1 + 1 + 1 + 1 ≤ q := fun q hq => (h.own1.block hq).1
 have hr2 : ∀ q, vt.ownBlock = some q → w.heap.size + 1 + 1 + 1 + 1 ≤ q ∧ q < U.heap.size := fun q hq => h.own2.block hq
 have hne : vn.ownBlock ≠ some (w.heap.size + 1 + 1 + 1) := fun e => by have := hr _ e; omega
 have k : ∀ {j : Nat} {u : Value}, j ≠ 5 → U.cell? ⟨w.heap.size + 1 + 1 + 1, j, none⟩ = some u → (w'.setCell ⟨w.heap.size + 1 + 1 + 1, 5, none⟩ v').cell? ⟨w.heap.size + 1 + 1 + 1, j, none⟩ = some u := fun hj hc => (World.cell?_setCell_other _ _ _ _ (by intro e; simp only [Addr.mk.injEq] at e; omega)).trans (zk hg hc hne)
 have hb : Below (w.heap.size + 1 + 1 + 1) W3 w' := h.bel.grown hg (by omega) (fun q hq => by have := hr q hq; omega)
 refine ⟨hb.setCell (by simp) _, k (by omega) h.c0, k (by omega) h.c1, k (by omega) h.c2, k (by omega) h.c3, k (by omega) h.c4, World.cell?_setCell_same _ _ _ (zk hg h.c5 hne), k (by omega) h.c6, k (by omega) h.c7, k (by omega) h.c8, by simp [go_sem, zv hg (by omega) h.z5 hne], by simp [go_sem, zv hg (by omega) h.z6 hne], ?_, ?_, fun g hg1 => ?_, hf, by simp [World.setCell]; omega⟩
 ·exact ho.set_ne (fun hm => by have := hf _ hm; omega) (fun e => by have := (ho.block e).1; omega)
 ·refine (h.own2.same (w' := w') (fun b hb => by simp at hb) (fun b hb => hg.block b (hr2 b hb).2 (fun e => h.dj b e.symm hb))).set_ne (by simp) (fun e => by have := (hr2 _ e).1; omega)
 ·rcases hv g hg1 with h1 | h1
  ·exact h.dj g h1
  ·intro e; have := (hr2 _ e).2; omega
/-- Behind an append to the times. -/
theorem PutSt.times {w W3 U w' : World} {kind bound : Int} {strict : Bool} {ns : List Tm} {ts ts' : List Int} {vn vt v' : Value} {fn : List Nat} (h : PutSt w W3 U kind bound strict ns ts vn vt fn) (hg : U.grownBy w' vt.ownBlock) (ho : Own w' (w.heap.size + 1 + 1 + 1 + 1) 3 1 v' (ts'.map zg) [])
  (hv : ∀ b, v'.ownBlock = some b → vt.ownBlock = some b ∨ U.heap.size ≤ b) : PutSt w W3 (w'.setCell ⟨w.heap.size + 1 + 1 + 1, 6, none⟩ v') kind bound strict ns ts' vn v' fn := by
 have hz := h.sz
 have hs := hg.size
 have hr : ∀ q, vt.ownBlock = some q → w.heap.size + 1 + 1 + 1 + 1 ≤ q := fun q hq => (h.own2.block hq).1
 have hr1 : ∀ q, vn.ownBlock = some q → w.heap.size + 1 + 1 + 1 + 1 ≤ q ∧ q < U.heap.size := fun q hq => h.own1.block hq
 have hne : vt.ownBlock ≠ some (w.heap.size + 1 + 1 + 1) := fun e => by have := hr _ e; omega
 have k : ∀ {j : Nat} {u : Value}, j ≠ 6 → U.cell? ⟨w.heap.size + 1 + 1 + 1, j, none⟩ = some u → (w'.setCell ⟨w.heap.size + 1 + 1 + 1, 6, none⟩ v').cell? ⟨w.heap.size + 1 + 1 + 1, j, none⟩ = some u := fun hj hc => (World.cell?_setCell_other _ _ _ _ (by intro e; simp only [Addr.mk.injEq] at e; omega)).trans (zk hg hc hne)
 have hb : Below (w.heap.size + 1 + 1 + 1) W3 w' := h.bel.grown hg (by omega) (fun q hq => by have := hr q hq; omega)
 refine ⟨hb.setCell (by simp) _, k (by omega) h.c0, k (by omega) h.c1, k (by omega) h.c2, k (by omega) h.c3, k (by omega) h.c4, k (by omega) h.c5, World.cell?_setCell_same _ _ _ (zk hg h.c6 hne), k (by omega) h.c7, k (by omega) h.c8, by simp [go_sem, zv hg (by omega) h.z5 hne], by simp [go_sem, zv hg (by omega) h.z6 hne], ?_, ?_, fun g hg1 e => ?_, h.fl, by simp [World.setCell]; omega⟩
 ·refine (h.own1.same (w' := w') (fun b hb => hg.block b (by have := h.fl b hb; omega) (fun e => by have := hr _ e.symm; have := h.fl b hb; omega)) (fun b hb => hg.block b (hr1 b hb).2 (fun e => h.dj b hb e.symm))).set_ne (fun hm => by have := h.fl _ hm; omega) (fun e => by have := (hr1 _ e).1; omega)
 ·exact ho.set_ne (by simp) (fun e => by have := (ho.block e).1; omega)
 ·rcases hv g e with h1 | h1
  ·exact h.dj g hg1 h1
  ·have := (hr1 _ hg1).2; omega
end Go.Proofs.YtoehhbkhdddeeaaDoor
end
