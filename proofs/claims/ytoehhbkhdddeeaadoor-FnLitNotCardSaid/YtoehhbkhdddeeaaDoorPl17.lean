/- Parts of the proof: Rdr5. -/
import Derived.Deep.RegionHeld3
import Derived.Deep.CutRange
import Derived.Test.YtoehhbkhdddeeaaDoorPl16
section
namespace Go.Proofs.YtoehhbkhdddeeaaDoor
open Go Go.RowKit
set_option linter.unusedVariables false
set_option linter.unusedSimpArgs false
set_option maxRecDepth 100000
set_option maxHeartbeats 16000000
/-- Block lb, made after the reader, holds vs, and may be written. -/
def Lst (rb : Nat) (vs : List Value) (lb : Nat) (w : World) : Prop := rb < lb ∧ lb < w.heap.size ∧ (∀ j u, vs[j]? = some u → w.cell? ⟨lb, j, none⟩ = some u) ∧ ∀ j, w.frozen? ⟨lb, j, none⟩ = false
theorem Lst.new {w : World} {rb : Nat} (h : rb < w.heap.size) (vs : List Value) (T : TypeId) : Lst rb vs w.heap.size (w.alloc (.cells vs.toArray T)) :=
 ⟨h, by simp, fun j u hu => zm w vs T j u hu, fun j => zZ _ _ _ _⟩
theorem Lst.new1 {w : World} {rb : Nat} (h : rb < w.heap.size) (o : Obj) (vs : List Value) (T : TypeId) : Lst rb vs (w.heap.size + 1) ((w.alloc o).alloc (.cells vs.toArray T)) := by
 have h1 := Lst.new (w := w.alloc o) (rb := rb) (by rw [World.size_alloc]; omega) vs T
 rw [World.size_alloc] at h1; exact h1
theorem Lst.below {w w' : World} {rb lb : Nat} {vs : List Value} (h : Lst rb vs lb w) (hb : Below w.heap.size w w') : Lst rb vs lb w' :=
 ⟨h.1, zcc h.2.1 hb.size, fun j u hu => za (h.2.2.1 j u hu) hb, fun j => (zd (hb.block lb h.2.1)).trans (h.2.2.2 j)⟩
theorem Lst.alloc {w : World} {rb lb : Nat} {vs : List Value} (h : Lst rb vs lb w) (o : Obj) : Lst rb vs lb (w.alloc o) := h.below (zc w o)
theorem Only.cellk {w w' : World} {rb b i : Nat} {u : Value} (h : Only [rb] w w') (hc : w.cell? ⟨b, i, none⟩ = some u) (hne : b ≠ rb) : w'.cell? ⟨b, i, none⟩ = some u := h.keep hc (World.block_lt_of_cell? w _ hc) hne
theorem Lst.drew {w : World} {rb lb : Nat} {vs : List Value} (h : Lst rb vs lb w) : Lst rb vs lb w.drew := h
theorem zaE {w : World} {o : Obj} {a : Addr} {v : Value} (h : w.cell? a = some v) : (w.alloc o).cell? a = some v := (World.cell?_of_block (w := w) ((zc w o).block a.block (World.block_lt_of_cell? w _ h))).trans h
theorem zbt {w : World} {a : Addr} {v : Value} (h : w.cell? a = some v) : w.drew.cell? a = some v := h
theorem Lst.only {w w' : World} {rb lb : Nat} {vs : List Value} (h : Lst rb vs lb w) (ho : Only [rb] w w') : Lst rb vs lb w' :=
 ⟨h.1, zcc h.2.1 ho.size, fun j u hu => ho.cellk (h.2.2.1 j u hu) (by have := h.1; omega), fun j => ho.free (h.2.2.2 j) h.2.1 (by have := h.1; omega)⟩
theorem Lst.use {G : Prop} {w w' : World} {rb lb : Nat} {vs : List Value} (ho : Only [rb] w w') (h : Lst rb vs lb w) (k : lb < w.heap.size → Lst rb vs lb w' → G) : G := k h.2.1 (h.only ho)
theorem num_l (xs : List Int) (vs : List Value) (hv : vs = xs.map (Value.int .i64)) (rb p lb : Nat) (w : World) (hp : p ≤ 1000000000) (h0 : 1 ≤ xs.length) (h1 : xs.length ≤ 1000) (hl : Lst rb vs lb w) (h : Rdr w rb p) :
  Calls Tryd.prog 68 #[.pointer (some ⟨rb, 0, none⟩), .slice (some ⟨lb, 0, none⟩) xs.length xs.length] w fun e w' => (∃ x, x ∈ xs ∧ e = .returned (.int .i64 x)) ∧ Rdr w' rb (p + 1) ∧ Only [rb] w w' :=
 num_any xs rb p lb w hp h0 h1 (by have := hl.1; omega) hl.2.1 (fun i hi => hl.2.2.1 i _ (by rw [hv, List.getElem?_map, List.getElem?_eq_getElem hi]; rfl)) h
theorem of_l (xs : List ByteArray) (vs : List Value) (hv : vs = xs.map Value.string) (rb p lb : Nat) (w : World) (hp : p ≤ 1000000000) (h0 : 1 ≤ xs.length) (h1 : xs.length ≤ 1000) (hl : Lst rb vs lb w) (h : Rdr w rb p) :
  Calls Tryd.prog 72 #[.pointer (some ⟨rb, 0, none⟩), .slice (some ⟨lb, 0, none⟩) xs.length xs.length] w fun e w' => (∃ x, x ∈ xs ∧ e = .returned (.string x)) ∧ Rdr w' rb (p + 1) ∧ Only [rb] w w' :=
 of_any xs rb p lb w hp h0 h1 (by have := hl.1; omega) hl.2.1 (fun i hi => hl.2.2.1 i _ (by rw [hv, List.getElem?_map, List.getElem?_eq_getElem hi]; rfl)) h
theorem Own.set_ne {w : World} {base e k : Nat} {v : Value} {es : List (List CD)} {fp : List Nat} (h : Own w base e k v es fp) {b j : Nat} {u : Value} (hn : b ∉ fp) (ho : v.ownBlock ≠ some b) : Own (w.setCell ⟨b, j, none⟩ u) base e k v es fp :=
 h.same (zz (fun x hx (e : x = b) => hn (e ▸ hx))) fun x hx => Below.heap_setCell _ _ _ _ (fun e : x = b => ho (e ▸ hx))
theorem Fresh.set_ne {w : World} {lo : Nat} {fp : List Nat} (h : Fresh lo w fp) {b j : Nat} {u : Value} (hn : b ∉ fp) : Fresh lo (w.setCell ⟨b, j, none⟩ u) fp := h.same (zz (fun x hx (e : x = b) => hn (e ▸ hx)))
/-- Behind an append to what the variable bt holds, stored into the variable. -/
theorem zbu {w U w7 : World} {rb q R bt base mid : Nat} {kv v7 x0 x1 y0 y1 : Value} {es es' : List (List CD)} {fo fn : List Nat} {T : TypeId} {f0 f1 : Bool}
  (hg : U.grownBy w7 kv.ownBlock) (hv7 : ∀ b, v7.ownBlock = some b → kv.ownBlock = some b ∨ U.heap.size ≤ b) (hs7 : SameOn (fo ++ fn) U w7) (hown : Own U base T 2 kv es fo) (hown7 : Own w7 base T 2 v7 es' (fo ++ fn)) (hfo : Fresh base U fo)
  (hfm : ∀ b ∈ fo, b < mid) (hbm : base ≤ mid) (hfn : Fresh mid U fn) (hbt : bt < mid) (hnfo : bt ∉ fo) (hnow : kv.ownBlock ≠ some bt) (hbtU : bt < U.heap.size) (hr : Rdr U rb q) (hrt : rb < bt) (hrb : rb < base) (hN : Only [rb] w U) (hwb : w.heap.size ≤ base) (hwt : w.heap.size ≤ bt)
  (hR : R < base) (hRU : R < U.heap.size) (hRt : R ≠ bt) (t0 : U.cell? ⟨bt, 0, none⟩ = some x0) (t1 : U.cell? ⟨bt, 1, none⟩ = some x1) (tf1 : U.frozen? ⟨bt, 1, none⟩ = false) (q0 : U.cell? ⟨R, 0, none⟩ = some y0) (q1 : U.cell? ⟨R, 1, none⟩ = some y1) (qf0 : U.frozen? ⟨R, 0, none⟩ = f0) (qf1 : U.frozen? ⟨R, 1, none⟩ = f1) :
  (w7.cell? ⟨bt, 1, none⟩ = some x1 ∧ w7.frozen? ⟨bt, 1, none⟩ = false ∧ w7.frozen? ⟨R, 0, none⟩ = f0 ∧ w7.frozen? ⟨R, 1, none⟩ = f1 ∧ w7.cell? ⟨R, 0, none⟩ = some y0 ∧ w7.cell? ⟨R, 1, none⟩ = some y1 ∧ w7.cell? ⟨bt, 0, none⟩ = some x0) ∧
  Own (w7.setCell ⟨bt, 1, none⟩ v7) base T 2 v7 es' (fo ++ fn) ∧ Fresh base (w7.setCell ⟨bt, 1, none⟩ v7) (fo ++ fn) ∧ Rdr (w7.setCell ⟨bt, 1, none⟩ v7) rb q ∧ Only [rb] w (w7.setCell ⟨bt, 1, none⟩ v7) ∧
  (w7.setCell ⟨bt, 1, none⟩ v7).cell? ⟨bt, 0, none⟩ = some x0 ∧ (w7.setCell ⟨bt, 1, none⟩ v7).cell? ⟨bt, 1, none⟩ = some v7 ∧ (w7.setCell ⟨bt, 1, none⟩ v7).cell? ⟨R, 0, none⟩ = some y0 ∧ (w7.setCell ⟨bt, 1, none⟩ v7).cell? ⟨R, 1, none⟩ = some y1 := by
 have hro : ∀ b, kv.ownBlock = some b → base ≤ b := fun b h => (hown.block h).1
 have hRo : kv.ownBlock ≠ some R := fun h => by have := hro _ h; omega
 have c0 := zk hg t0 hnow
 have c1 := zk hg t1 hnow
 have d0 := zk hg q0 hRo
 have d1 := zk hg q1 hRo
 have hnf : bt ∉ fo ++ fn := fun h => by
  rcases zce.1 h with h | h
  ·exact hnfo h
  ·have := (hfn.2 _ h).1; omega
 have hn7 : v7.ownBlock ≠ some bt := fun h => by
  rcases hv7 _ h with h1 | h1
  ·exact hnow h1
  ·omega
 have hfr := (Fresh.app hfo hfm hbm hfn).same hs7
 refine ⟨⟨c1, zv hg hbtU tf1 hnow, zv hg hRU qf0 hRo, zv hg hRU qf1 hRo, d0, d1, c0⟩, hown7.set_ne hnf hn7, hfr.set_ne hnf, (hr.grown hg (fun b h => by have := hro b h; omega)).set hrt, (hN.grown hg (fun b h => by have := hro b h; omega)).set_new hwt, ?_, ?_, ?_, ?_⟩
 ·exact (World.cell?_setCell_other w7 ⟨bt, 1, none⟩ ⟨bt, 0, none⟩ v7 (by simp)).trans c0
 ·exact World.cell?_setCell_same w7 ⟨bt, 1, none⟩ v7 c1
 ·exact (World.cell?_setCell_other w7 ⟨bt, 1, none⟩ ⟨R, 0, none⟩ v7 (by intro e; simp only [Addr.mk.injEq] at e; exact hRt e.1.symm)).trans d0
 ·exact (World.cell?_setCell_other w7 ⟨bt, 1, none⟩ ⟨R, 1, none⟩ v7 (by intro e; simp only [Addr.mk.injEq] at e; exact hRt e.1.symm)).trans d1
end Go.Proofs.YtoehhbkhdddeeaaDoor
end
