/- Parts of the proof: Wt Rdr5 PutA RdrW Rdr7. -/
import Derived.Test.YticlgpkjdmcnaaaPa9
import Derived.Deep.RegionHeld3
import Derived.Deep.CutRange
import Derived.Test.YticlgpkjdmcnaaaPa17
import Derived.BigQuiet
import Derived.Test.YticlgpkjdmcnaaaPa11
import Derived.Test.YticlgpkjdmcnaaaPa20
import Derived.Laws.Concat
import Derived.Deep.LoopGhost
import Derived.Test.YticlgpkjdmcnaaaPa21
import Derived.Test.YticlgpkjdmcnaaaPa7
section
namespace Go.Proofs.Yticlgpkjdmcnaaa
open Go Go.RowKit
set_option linter.unusedVariables false
set_option linter.unusedSimpArgs false
set_option maxRecDepth 100000
set_option maxHeartbeats 16000000
theorem Tm.wtV_eq (t : Tm) : wtV t.cd = t.name.size + (t.kids.length + wtR (t.kids.map Tm.cd)) := by
 rw [Tm.cd_eq]; simp [wtV, wtC]
theorem zZ (e : List CD) (es : List (List CD)) : wtR (e :: es) = wtV e + wtR es := by simp [wtR]
mutual
theorem Tm.size_wtV : ∀ (t : Tm), t.size ≤ 1 + wtV t.cd
 | .mk n ks => by
  have := Tm.sizes_wtR ks
  rw [Tm.wtV_eq]
  simp only [Tm.size, Tm.kids]
  omega
theorem Tm.sizes_wtR : ∀ (ts : List Tm), Tm.sizes ts ≤ ts.length + wtR (ts.map Tm.cd)
 | [] => by simp [Tm.sizes]
 | t :: ts => by
  have h1 := Tm.size_wtV t
  have h2 := Tm.sizes_wtR ts
  simp only [Tm.sizes, List.length_cons, List.map_cons, zZ]
  omega
end
/-- Block lb, made after the reader, holds vs, and may be written. -/
def Lst (rb : Nat) (vs : List Value) (lb : Nat) (w : World) : Prop := rb < lb ∧ lb < w.heap.size ∧ (∀ j u, vs[j]? = some u → w.cell? ⟨lb, j, none⟩ = some u) ∧ ∀ j, w.frozen? ⟨lb, j, none⟩ = false
theorem Lst.new {w : World} {rb : Nat} (h : rb < w.heap.size) (vs : List Value) (T : TypeId) : Lst rb vs w.heap.size (w.alloc (.cells vs.toArray T)) :=
 ⟨h, by simp, fun j u hu => zw w vs T j u hu, fun j => zW _ _ _ _⟩
theorem Lst.new1 {w : World} {rb : Nat} (h : rb < w.heap.size) (o : Obj) (vs : List Value) (T : TypeId) : Lst rb vs (w.heap.size + 1) ((w.alloc o).alloc (.cells vs.toArray T)) := by
 have h1 := Lst.new (w := w.alloc o) (rb := rb) (by rw [World.size_alloc]; omega) vs T
 rw [World.size_alloc] at h1; exact h1
theorem Lst.below {w w' : World} {rb lb : Nat} {vs : List Value} (h : Lst rb vs lb w) (hb : Below w.heap.size w w') : Lst rb vs lb w' :=
 ⟨h.1, zd3 h.2.1 hb.size, fun j u hu => za (h.2.2.1 j u hu) hb, fun j => (zh (hb.block lb h.2.1)).trans (h.2.2.2 j)⟩
theorem Lst.alloc {w : World} {rb lb : Nat} {vs : List Value} (h : Lst rb vs lb w) (o : Obj) : Lst rb vs lb (w.alloc o) := h.below (zb w o)
theorem Only.cellk {w w' : World} {rb b i : Nat} {u : Value} (h : Only [rb] w w') (hc : w.cell? ⟨b, i, none⟩ = some u) (hne : b ≠ rb) : w'.cell? ⟨b, i, none⟩ = some u := h.keep hc (World.block_lt_of_cell? w _ hc) hne
theorem Lst.drew {w : World} {rb lb : Nat} {vs : List Value} (h : Lst rb vs lb w) : Lst rb vs lb w.drew := h
theorem zaf {w : World} {o : Obj} {a : Addr} {v : Value} (h : w.cell? a = some v) : (w.alloc o).cell? a = some v := (World.cell?_of_block (w := w) ((zb w o).block a.block (World.block_lt_of_cell? w _ h))).trans h
theorem zb0 {w : World} {a : Addr} {v : Value} (h : w.cell? a = some v) : w.drew.cell? a = some v := h
theorem Lst.only {w w' : World} {rb lb : Nat} {vs : List Value} (h : Lst rb vs lb w) (ho : Only [rb] w w') : Lst rb vs lb w' :=
 ⟨h.1, zd3 h.2.1 ho.size, fun j u hu => ho.cellk (h.2.2.1 j u hu) (by have := h.1; omega), fun j => ho.free (h.2.2.2 j) h.2.1 (by have := h.1; omega)⟩
theorem num_l (xs : List Int) (vs : List Value) (hv : vs = xs.map (Value.int .i64)) (rb p lb : Nat) (w : World) (hp : p ≤ 1000000000) (h0 : 1 ≤ xs.length) (h1 : xs.length ≤ 1000) (hl : Lst rb vs lb w) (h : Rdr w rb p) :
  Calls Try.prog 24 #[.pointer (some ⟨rb, 0, none⟩), .slice (some ⟨lb, 0, none⟩) xs.length xs.length] w fun e w' => (∃ x, x ∈ xs ∧ e = .returned (.int .i64 x)) ∧ Rdr w' rb (p + 1) ∧ Only [rb] w w' :=
 num_any xs rb p lb w hp h0 h1 (by have := hl.1; omega) hl.2.1 (fun i hi => hl.2.2.1 i _ (by rw [hv, List.getElem?_map, List.getElem?_eq_getElem hi]; rfl)) h
theorem of_l (xs : List ByteArray) (vs : List Value) (hv : vs = xs.map Value.string) (rb p lb : Nat) (w : World) (hp : p ≤ 1000000000) (h0 : 1 ≤ xs.length) (h1 : xs.length ≤ 1000) (hl : Lst rb vs lb w) (h : Rdr w rb p) :
  Calls Try.prog 47 #[.pointer (some ⟨rb, 0, none⟩), .slice (some ⟨lb, 0, none⟩) xs.length xs.length] w fun e w' => (∃ x, x ∈ xs ∧ e = .returned (.string x)) ∧ Rdr w' rb (p + 1) ∧ Only [rb] w w' :=
 of_any xs rb p lb w hp h0 h1 (by have := hl.1; omega) hl.2.1 (fun i hi => hl.2.2.1 i _ (by rw [hv, List.getElem?_map, List.getElem?_eq_getElem hi]; rfl)) h
theorem Own.set_ne {w : World} {base e k : Nat} {v : Value} {es : List (List CD)} {fp : List Nat} (h : Own w base e k v es fp) {b j : Nat} {u : Value} (hn : b ∉ fp) (ho : v.ownBlock ≠ some b) : Own (w.setCell ⟨b, j, none⟩ u) base e k v es fp :=
 h.same (zv (fun x hx (e : x = b) => hn (e ▸ hx))) fun x hx => Below.heap_setCell _ _ _ _ (fun e : x = b => ho (e ▸ hx))
theorem Fresh.set_ne {w : World} {lo : Nat} {fp : List Nat} (h : Fresh lo w fp) {b j : Nat} {u : Value} (hn : b ∉ fp) : Fresh lo (w.setCell ⟨b, j, none⟩ u) fp := h.same (zv (fun x hx (e : x = b) => hn (e ▸ hx)))
theorem zdQ {w wr : World} {cs ds es : List Value} {T U V : TypeId} (hb : Below (w.heap.size + 1 + 1 + 1) (((w.alloc (.cells cs.toArray T)).alloc (.cells ds.toArray U)).alloc (.cells es.toArray V)) wr) :
  (∀ j x, cs[j]? = some x → wr.cell? ⟨w.heap.size, j, none⟩ = some x) ∧ (∀ j x, ds[j]? = some x → wr.cell? ⟨w.heap.size + 1, j, none⟩ = some x) ∧ (∀ j x, es[j]? = some x → wr.cell? ⟨w.heap.size + 1 + 1, j, none⟩ = some x) ∧
  (∀ j, wr.frozen? ⟨w.heap.size + 1 + 1, j, none⟩ = false) ∧ w.heap.size + 1 + 1 + 1 ≤ wr.heap.size ∧ Below w.heap.size w wr := by
 have hs : (((w.alloc (.cells cs.toArray T)).alloc (.cells ds.toArray U)).alloc (.cells es.toArray V)).heap.size = w.heap.size + 1 + 1 + 1 := by simp
 have hb' : Below (((w.alloc (.cells cs.toArray T)).alloc (.cells ds.toArray U)).alloc (.cells es.toArray V)).heap.size (((w.alloc (.cells cs.toArray T)).alloc (.cells ds.toArray U)).alloc (.cells es.toArray V)) wr := by rw [hs]; exact hb
 have h2 := zw (w.alloc (.cells cs.toArray T)) ds U
 have h3 := zw ((w.alloc (.cells cs.toArray T)).alloc (.cells ds.toArray U)) es V
 have h4 := zW ((w.alloc (.cells cs.toArray T)).alloc (.cells ds.toArray U)) es.toArray V
 rw [World.size_alloc] at h2
 rw [World.size_alloc, World.size_alloc] at h3 h4
 refine ⟨fun j x hx => za (zaf (zaf (zw w cs T j x hx))) hb', fun j x hx => za (zaf (h2 j x hx)) hb', fun j x hx => za (h3 j x hx) hb', fun j => (zh (hb'.block _ (by rw [hs]; omega))).trans (h4 j), by have := hb'.size; omega, ?_⟩
 exact ((((Below.refl _ _).alloc (Nat.le_refl _) _).alloc (by simp) _).alloc (by simp; omega) _).trans (hb.mono (by omega))
/-- In the midst of l6Put: the new sum in its box, its rows the call's own. -/
structure PutSt (w W3 U : World) (kind bound : Int) (strict : Bool) (ns : List Tm) (ts : List Int) (vn vt : Value) (fn : List Nat) : Prop where
 bel : Below (w.heap.size + 1 + 1 + 1) W3 U
 c0 : U.cell? ⟨w.heap.size + 1 + 1 + 1, 0, none⟩ = some (.int .i64 kind)
 c1 : U.cell? ⟨w.heap.size + 1 + 1 + 1, 1, none⟩ = some (.string ⟨#[]⟩)
 c2 : U.cell? ⟨w.heap.size + 1 + 1 + 1, 2, none⟩ = some (.slice none 0 0)
 c3 : U.cell? ⟨w.heap.size + 1 + 1 + 1, 3, none⟩ = some (.string ⟨#[]⟩)
 c4 : U.cell? ⟨w.heap.size + 1 + 1 + 1, 4, none⟩ = some (.slice none 0 0)
 c5 : U.cell? ⟨w.heap.size + 1 + 1 + 1, 5, none⟩ = some vn
 c6 : U.cell? ⟨w.heap.size + 1 + 1 + 1, 6, none⟩ = some vt
 c7 : U.cell? ⟨w.heap.size + 1 + 1 + 1, 7, none⟩ = some (.int .i64 bound)
 c8 : U.cell? ⟨w.heap.size + 1 + 1 + 1, 8, none⟩ = some (.bool strict)
 z5 : U.frozen? ⟨w.heap.size + 1 + 1 + 1, 5, none⟩ = false
 z6 : U.frozen? ⟨w.heap.size + 1 + 1 + 1, 6, none⟩ = false
 own1 : Own U (w.heap.size + 1 + 1 + 1 + 1) 45 2 vn (ns.map Tm.cd) fn
 own2 : Own U (w.heap.size + 1 + 1 + 1 + 1) 3 1 vt (ts.map zq) []
 dj : ∀ g, vn.ownBlock = some g → vt.ownBlock ≠ some g
 fl : ∀ b ∈ fn, b < w.heap.size
 sz : w.heap.size + 1 + 1 + 1 + 1 ≤ U.heap.size
theorem PutSt.below {w W3 U U' : World} {kind bound : Int} {strict : Bool} {ns : List Tm} {ts : List Int} {vn vt : Value} {fn : List Nat} (h : PutSt w W3 U kind bound strict ns ts vn vt fn) (hb : Below U.heap.size U U') : PutSt w W3 U' kind bound strict ns ts vn vt fn := by
 have hz := h.sz
 have hs := hb.size
 exact ⟨h.bel.trans (hb.mono (by omega)), za h.c0 hb, za h.c1 hb, za h.c2 hb, za h.c3 hb, za h.c4 hb, za h.c5 hb, za h.c6 hb, za h.c7 hb, za h.c8 hb, (zh (hb.block _ (by omega))).trans h.z5, (zh (hb.block _ (by omega))).trans h.z6, h.own1.below hb, h.own2.below hb, h.dj, h.fl, by omega⟩
/-- Behind an append to the terms. -/
theorem PutSt.nums {w W3 U w' : World} {kind bound : Int} {strict : Bool} {ns ns' : List Tm} {ts : List Int} {vn vt v' : Value} {fn fn' : List Nat} (h : PutSt w W3 U kind bound strict ns ts vn vt fn) (hg : U.grownBy w' vn.ownBlock) (ho : Own w' (w.heap.size + 1 + 1 + 1 + 1) 45 2 v' (ns'.map Tm.cd) fn')
  (hv : ∀ b, v'.ownBlock = some b → vn.ownBlock = some b ∨ U.heap.size ≤ b) (hf : ∀ b ∈ fn', b < w.heap.size) : PutSt w W3 (w'.setCell ⟨w.heap.size + 1 + 1 + 1, 5, none⟩ v') kind bound strict ns' ts v' vt fn' := by
 have hz := h.sz
 have hs := hg.size
 have hr : ∀ q, vn.ownBlock = some q → w.heap.size + 1 + 1 + 1 + 1 ≤ q := fun q hq => (h.own1.block hq).1
 have hr2 : ∀ q, vt.ownBlock = some q → w.heap.size + 1 + 1 + 1 + 1 ≤ q ∧ q < U.heap.size := fun q hq => h.own2.block hq
 have hne : vn.ownBlock ≠ some (w.heap.size + 1 + 1 + 1) := fun e => by have := hr _ e; omega
 have k : ∀ {j : Nat} {u : Value}, j ≠ 5 → U.cell? ⟨w.heap.size + 1 + 1 + 1, j, none⟩ = some u → (w'.setCell ⟨w.heap.size + 1 + 1 + 1, 5, none⟩ v').cell? ⟨w.heap.size + 1 + 1 + 1, j, none⟩ = some u := fun hj hc => (World.cell?_setCell_other _ _ _ _ (by intro e; simp only [Addr.mk.injEq] at e; omega)).trans (zu hg hc hne)
 have hb : Below (w.heap.size + 1 + 1 + 1) W3 w' := h.bel.grown hg (by omega) (fun q hq => by have := hr q hq; omega)
 refine ⟨hb.setCell (by simp) _, k (by omega) h.c0, k (by omega) h.c1, k (by omega) h.c2, k (by omega) h.c3, k (by omega) h.c4, World.cell?_setCell_same _ _ _ (zu hg h.c5 hne), k (by omega) h.c6, k (by omega) h.c7, k (by omega) h.c8, by simp [go_sem, zK hg (by omega) h.z5 hne], by simp [go_sem, zK hg (by omega) h.z6 hne], ?_, ?_, fun g hg1 => ?_, hf, by simp [World.setCell]; omega⟩
 ·exact ho.set_ne (fun hm => by have := hf _ hm; omega) (fun e => by have := (ho.block e).1; omega)
 ·refine (h.own2.same (w' := w') (fun b hb => by simp at hb) (fun b hb => hg.block b (hr2 b hb).2 (fun e => h.dj b e.symm hb))).set_ne (by simp) (fun e => by have := (hr2 _ e).1; omega)
 ·rcases hv g hg1 with h1 | h1
  ·exact h.dj g h1
  ·intro e; have := (hr2 _ e).2; omega
/-- Behind an append to the times. -/
theorem PutSt.times {w W3 U w' : World} {kind bound : Int} {strict : Bool} {ns : List Tm} {ts ts' : List Int} {vn vt v' : Value} {fn : List Nat} (h : PutSt w W3 U kind bound strict ns ts vn vt fn) (hg : U.grownBy w' vt.ownBlock) (ho : Own w' (w.heap.size + 1 + 1 + 1 + 1) 3 1 v' (ts'.map zq) [])
  (hv : ∀ b, v'.ownBlock = some b → vt.ownBlock = some b ∨ U.heap.size ≤ b) : PutSt w W3 (w'.setCell ⟨w.heap.size + 1 + 1 + 1, 6, none⟩ v') kind bound strict ns ts' vn v' fn := by
 have hz := h.sz
 have hs := hg.size
 have hr : ∀ q, vt.ownBlock = some q → w.heap.size + 1 + 1 + 1 + 1 ≤ q := fun q hq => (h.own2.block hq).1
 have hr1 : ∀ q, vn.ownBlock = some q → w.heap.size + 1 + 1 + 1 + 1 ≤ q ∧ q < U.heap.size := fun q hq => h.own1.block hq
 have hne : vt.ownBlock ≠ some (w.heap.size + 1 + 1 + 1) := fun e => by have := hr _ e; omega
 have k : ∀ {j : Nat} {u : Value}, j ≠ 6 → U.cell? ⟨w.heap.size + 1 + 1 + 1, j, none⟩ = some u → (w'.setCell ⟨w.heap.size + 1 + 1 + 1, 6, none⟩ v').cell? ⟨w.heap.size + 1 + 1 + 1, j, none⟩ = some u := fun hj hc => (World.cell?_setCell_other _ _ _ _ (by intro e; simp only [Addr.mk.injEq] at e; omega)).trans (zu hg hc hne)
 have hb : Below (w.heap.size + 1 + 1 + 1) W3 w' := h.bel.grown hg (by omega) (fun q hq => by have := hr q hq; omega)
 refine ⟨hb.setCell (by simp) _, k (by omega) h.c0, k (by omega) h.c1, k (by omega) h.c2, k (by omega) h.c3, k (by omega) h.c4, k (by omega) h.c5, World.cell?_setCell_same _ _ _ (zu hg h.c6 hne), k (by omega) h.c7, k (by omega) h.c8, by simp [go_sem, zK hg (by omega) h.z5 hne], by simp [go_sem, zK hg (by omega) h.z6 hne], ?_, ?_, fun g hg1 e => ?_, h.fl, by simp [World.setCell]; omega⟩
 ·refine (h.own1.same (w' := w') (fun b hb => hg.block b (by have := h.fl b hb; omega) (fun e => by have := hr _ e.symm; have := h.fl b hb; omega)) (fun b hb => hg.block b (hr1 b hb).2 (fun e => h.dj b hb e.symm))).set_ne (fun hm => by have := h.fl _ hm; omega) (fun e => by have := (hr1 _ e).1; omega)
 ·exact ho.set_ne (by simp) (fun e => by have := (ho.block e).1; omega)
 ·rcases hv g e with h1 | h1
  ·exact h.dj g hg1 h1
  ·have := (hr1 _ hg1).2; omega
mutual
/-- Right names are short. -/
theorem zcm : ∀ (t : Tm) (d : Int), Tm.shape t d = true → wtV t.cd + 1 ≤ 3 * t.size
 | .mk n ks, d, h => by
  rw [Tm.shape_eq] at h
  simp only [Tm.name, Tm.kids, zeb, decide_eq_true_eq] at h
  have hk := zdr ks (d - 1) (by first | exact h.2 | exact h.2.2 | exact h.2.2.2)
  have hn : n.size ≤ 2 := by
   have h1 : zaC n = true := by first | exact h.1.1.2 | exact h.1.2.1 | exact h.2.1 | exact h.1.2 | exact h.1.1
   simp only [zaC, zeb, decide_eq_true_eq] at h1
   omega
  rw [Tm.wtV_eq, Tm.size_eq]
  simp only [Tm.name, Tm.kids]
  omega
theorem zdr : ∀ (ts : List Tm) (d : Int), Tm.shapes ts d = true → ts.length + wtR (ts.map Tm.cd) ≤ 3 * Tm.sizes ts
 | [], _, _ => by simp [wtR, Tm.sizes]
 | t :: ts, d, h => by
  simp only [Tm.shapes, zeb] at h
  have h1 := zcm t d h.1
  have h2 := zdr ts d h.2
  simp only [List.map_cons, zZ, List.length_cons, Tm.sizes]
  omega
end
theorem Only.drewx {w w' : World} {fp : List Nat} (h : Only fp w w') : Only fp w w'.drew := ⟨h.os, h.tape, h.output, h.size, h.block⟩
theorem Rdr.drewx {w : World} {rb p : Nat} (h : Rdr w rb p) : Rdr w.drew rb p := h
theorem take_all {α : Type} {l : List α} {k : Nat} (h : l.length ≤ k) : l.take k = l := List.take_of_length_le h
end Go.Proofs.Yticlgpkjdmcnaaa
end
