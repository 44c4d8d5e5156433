/- Parts of the proof: Rdr3 Rdr4 Rdr5 PutA. -/
import Derived.Test.YtbfinjiledfpcaaPa5
import Derived.Test.YtbfinjiledfpcaaPa6
import Derived.Test.YtbfinjiledfpcaaPa9
import Derived.Deep.RegionLaw
import Derived.Test.YtbfinjiledfpcaaPa10
import Derived.Test.YtbfinjiledfpcaaPa14
import Derived.Deep.RegionHeld3
import Derived.Deep.CutRange
import Derived.BigQuiet
import Derived.Test.YtbfinjiledfpcaaPa15
section
namespace Go.Proofs.Ytbfinjiledfpcaa
open Go Go.RowKit
set_option linter.unusedVariables false
set_option linter.unusedSimpArgs false
set_option maxRecDepth 100000
set_option maxHeartbeats 16000000
theorem zaN {w : World} {b n c k : Nat} {es : List (List CD)} {vs : List Value} {f : List Nat} (hc : ∀ j u, vs[j]? = some u → w.cell? ⟨b, j, none⟩ = some u) (h : RdVs w es.flatten vs f) (hne : es ≠ []) (hn : n = es.length) (hcap : es.length ≤ c) (hm : c ≤ 9223372036854775807) (hb : b < w.heap.size) :
  Rd w (.sl es) (.slice (some ⟨b, 0, none⟩) n c) (b :: f) := by
 simp only [Rd]; exact ⟨_, c, by rw [hn], hcap, by simpa [maxLen] using hm, .inr ⟨hne, b, 0, f, rfl, hb, rfl, RdRows.mk (k := k) (fun j u hu => by rw [Nat.zero_add]; exact hc j u hu) h⟩⟩
theorem zcJ {w : World} {α : Type} {cd : α → List CD} (a : Option Addr) : Rd w (.sl (([] : List α).map cd)) (.slice a 0 0) [] := by
 simp only [List.map_nil, Rd]; exact ⟨a, 0, rfl, by simp, by simp [maxLen], by simp⟩
/-- Words that are drawn: few, of few arguments. -/
def Sg.few (s : Sg) : Prop := s.Y.length ≤ 5 ∧ ∀ y ∈ s.Y, y.args.length ≤ 2
theorem zj (w : World) (vs : List Value) (T : Nat) (j : Nat) (u : Value) (h : vs[j]? = some u) : (w.alloc (.cells vs.toArray T)).cell? ⟨w.heap.size, j, none⟩ = some u := by
 rw [zD]; simpa using h
theorem sym0 (w : World) (nm : ByteArray) (k : Int) (h : nm.size ≤ 9223372036854775807) (hk : -9223372036854775808 ≤ k ∧ k ≤ 9223372036854775807) : RdVs w (Sy.cd ⟨nm, [], k⟩) [.string nm, .slice none 0 0, .int .i64 k] [] :=
 Sy.close (x := ⟨nm, [], k⟩) (f1 := []) (by simpa [maxLen] using h) (zcJ none) hk
theorem zbR {w : World} : ∀ (l : List Int), (∀ x ∈ l, I64 x) → RdVs w (l.map zm).flatten (l.map (Value.int .i64)) []
 | [], _ => by simp only [List.map_nil, List.flatten_nil, RdVs]; exact ⟨trivial, trivial⟩
 | x :: l, h => by
  have := (RdVs.single (w := w) (d := .int x) (v := .int .i64 x) (fp := []) (by simp only [Rd]; exact ⟨trivial, h x (by simp), trivial⟩)).app (zbR l (fun y hy => h y (by simp [hy])))
  simpa [zm] using this
theorem sym1 (w : World) (nm : ByteArray) (l : List Int) (k : Int) (b : Nat) (h : nm.size ≤ 9223372036854775807) (hk : -9223372036854775808 ≤ k ∧ k ≤ 9223372036854775807) (hne : l ≠ []) (hl : l.length ≤ 1000) (ha : ∀ x ∈ l, I64 x) (hb : b < w.heap.size)
  (hc : ∀ j u, (l.map (Value.int .i64))[j]? = some u → w.cell? ⟨b, j, none⟩ = some u) : RdVs w (Sy.cd ⟨nm, l, k⟩) [.string nm, .slice (some ⟨b, 0, none⟩) l.length l.length, .int .i64 k] [b] :=
 Sy.close (x := ⟨nm, l, k⟩) (f1 := [b]) (by simpa [maxLen] using h) (zaN (k := 1) hc (zbR l ha) (by simpa using hne) (by simp) (by simp) (by omega) hb) hk
theorem Only.undrew {w w' : World} {fp : List Nat} (h : Only fp w.drew w') : Only fp w w' := ⟨h.os, h.tape, h.output, h.size, h.block⟩
theorem Only.set_new {w w' : World} {rb b i : Nat} {u : Value} (h : Only [rb] w w') (hb : w.heap.size ≤ b) : Only [rb] w (w'.setCell ⟨b, i, none⟩ u) :=
 ⟨h.os, h.tape, h.output, by simpa [World.setCell] using h.size, fun q hq hn => (Below.heap_setCell _ _ _ _ (by show q ≠ b; omega)).trans (h.block q hq hn)⟩
theorem Rdr.set {w : World} {rb p b i : Nat} {u : Value} (h : Rdr w rb p) (hb : rb < b) : Rdr (w.setCell ⟨b, i, none⟩ u) rb p := h.same (fun q hq => Below.heap_setCell _ _ _ _ (by show q ≠ b; omega))
theorem Only.free {w w' : World} {rb b i : Nat} {f : Bool} (h : Only [rb] w w') (hc : w.frozen? ⟨b, i, none⟩ = f) (hb : b < w.heap.size) (hne : b ≠ rb) : w'.frozen? ⟨b, i, none⟩ = f := zI (h.block b hb (by simpa using hne)) hc
theorem zY {wr w2 w4 : World} {o : Obj} {row : Option Nat} {b rb : Nat} (ho : Only [rb] wr w2) (hg : (w2.alloc o).grownBy w4 row) (hl : b < wr.heap.size) (hb : b ≠ rb) (hn : row ≠ some b) : w4.heap[b]? = wr.heap[b]? := by
 have h1 : b < w2.heap.size := zdy hl ho.size; exact ((hg.block b (by simp; omega) (fun e => hn e.symm)).trans ((za w2 o).block b h1)).trans (ho.block b hl (by simpa using hb))
def pcap : Nat → Nat | 0 => 0 | n + 1 => 1 + 2 * pcap n
theorem Fresh.notin {lo rb : Nat} {w : World} {fp : List Nat} (h : Fresh lo w fp) (hl : rb < lo) : rb ∉ fp := fun hm => by have := (h.2 _ hm).1; omega
theorem Own.set_row {w : World} {base e k : Nat} {v : Value} {es : List (List CD)} {fp : List Nat} (h : Own w base e k v es fp) {b j : Nat} {u : Value} (hb : b < base) (hn : b ∉ fp) : Own (w.setCell ⟨b, j, none⟩ u) base e k v es fp :=
 h.same (zE (fun x hx (e : x = b) => hn (e ▸ hx))) fun x hx => Below.heap_setCell _ _ _ _ (by have := (h.block hx).1; show x ≠ b; omega)
def Sg.words (s : Sg) (so deep : Int) (k : Nat) : List Sy := (s.Y.take k).filter fun y => (y.sort == so) && (decide (1 < deep) || ((y.args.length : Int) == 0))
theorem Sg.words_yes {s : Sg} {so deep : Int} {k : Nat} (hk : k < s.Y.length) (h : ((s.Y[k].sort == so) && (decide (1 < deep) || ((s.Y[k].args.length : Int) == 0))) = true) : s.words so deep (k + 1) = s.words so deep k ++ [s.Y[k]] := by
 unfold Sg.words; rw [zdz hk, List.filter_append, List.filter_cons, if_pos h, List.filter_nil]
theorem Sg.words_no {s : Sg} {so deep : Int} {k : Nat} (hk : k < s.Y.length) (h : ((s.Y[k].sort == so) && (decide (1 < deep) || ((s.Y[k].args.length : Int) == 0))) = false) : s.words so deep (k + 1) = s.words so deep k := by
 unfold Sg.words; rw [zdz hk, List.filter_append, List.filter_cons, if_neg (by simp [h]), List.filter_nil, List.append_nil]
theorem Sg.words_len (s : Sg) (so deep : Int) (k : Nat) : (s.words so deep k).length ≤ s.Y.length := by
 unfold Sg.words; have h1 := List.length_filter_le (fun y : Sy => (y.sort == so) && (decide (1 < deep) || ((y.args.length : Int) == 0))) (s.Y.take k); have h2 : (s.Y.take k).length ≤ s.Y.length := by simp; omega
 omega
theorem Sg.words_mem {s : Sg} {so deep : Int} {k : Nat} {y : Sy} (h : y ∈ s.words so deep k) : y ∈ s.Y ∧ (0 < y.args.length → 1 < deep) := by
 unfold Sg.words at h; rw [List.mem_filter] at h; refine ⟨List.mem_of_mem_take h.1, fun h0 => ?_⟩; have h2 := h.2; simp only [zdG, Bool.or_eq_true, decide_eq_true_eq, beq_iff_eq] at h2; omega
/-- Block lb, made after the reader, holds vs, and may be written. -/
def Lst (rb : Nat) (vs : List Value) (lb : Nat) (w : World) : Prop := rb < lb ∧ lb < w.heap.size ∧ (∀ j u, vs[j]? = some u → w.cell? ⟨lb, j, none⟩ = some u) ∧ ∀ j, w.frozen? ⟨lb, j, none⟩ = false
theorem Lst.new {w : World} {rb : Nat} (h : rb < w.heap.size) (vs : List Value) (T : TypeId) : Lst rb vs w.heap.size (w.alloc (.cells vs.toArray T)) :=
 ⟨h, by simp, fun j u hu => zj w vs T j u hu, fun j => zar _ _ _ _⟩
theorem Lst.new1 {w : World} {rb : Nat} (h : rb < w.heap.size) (o : Obj) (vs : List Value) (T : TypeId) : Lst rb vs (w.heap.size + 1) ((w.alloc o).alloc (.cells vs.toArray T)) := by
 have h1 := Lst.new (w := w.alloc o) (rb := rb) (by rw [zdM]; omega) vs T; rw [zdM] at h1; exact h1
theorem Lst.below {w w' : World} {rb lb : Nat} {vs : List Value} (h : Lst rb vs lb w) (hb : Below w.heap.size w w') : Lst rb vs lb w' :=
 ⟨h.1, zdy h.2.1 hb.size, fun j u hu => zb (h.2.2.1 j u hu) hb, fun j => (zk (hb.block lb h.2.1)).trans (h.2.2.2 j)⟩
theorem Lst.alloc {w : World} {rb lb : Nat} {vs : List Value} (h : Lst rb vs lb w) (o : Obj) : Lst rb vs lb (w.alloc o) := h.below (za w o)
theorem Only.cellk {w w' : World} {rb b i : Nat} {u : Value} (h : Only [rb] w w') (hc : w.cell? ⟨b, i, none⟩ = some u) (hne : b ≠ rb) : w'.cell? ⟨b, i, none⟩ = some u := h.keep hc (World.block_lt_of_cell? w _ hc) hne
theorem Lst.drew {w : World} {rb lb : Nat} {vs : List Value} (h : Lst rb vs lb w) : Lst rb vs lb w.drew := h
theorem zQ {w : World} {o : Obj} {a : Addr} {v : Value} (h : w.cell? a = some v) : (w.alloc o).cell? a = some v := (zdP (w := w) ((za w o).block a.block (World.block_lt_of_cell? w _ h))).trans h
theorem za1 {w : World} {a : Addr} {v : Value} (h : w.cell? a = some v) : w.drew.cell? a = some v := h
theorem Lst.only {w w' : World} {rb lb : Nat} {vs : List Value} (h : Lst rb vs lb w) (ho : Only [rb] w w') : Lst rb vs lb w' :=
 ⟨h.1, zdy h.2.1 ho.size, fun j u hu => ho.cellk (h.2.2.1 j u hu) (by have := h.1; omega), fun j => ho.free (h.2.2.2 j) h.2.1 (by have := h.1; omega)⟩
theorem Lst.use {G : Prop} {w w' : World} {rb lb : Nat} {vs : List Value} (ho : Only [rb] w w') (h : Lst rb vs lb w) (k : lb < w.heap.size → Lst rb vs lb w' → G) : G := k h.2.1 (h.only ho)
theorem num_l (xs : List Int) (vs : List Value) (hv : vs = xs.map (Value.int .i64)) (rb p lb : Nat) (w : World) (hp : p ≤ 1000000000) (h0 : 1 ≤ xs.length) (h1 : xs.length ≤ 1000) (hl : Lst rb vs lb w) (h : Rdr w rb p) :
  Calls Try.prog 15 #[.pointer (some ⟨rb, 0, none⟩), .slice (some ⟨lb, 0, none⟩) xs.length xs.length] w fun e w' => (∃ x, x ∈ xs ∧ e = .returned (.int .i64 x)) ∧ Rdr w' rb (p + 1) ∧ Only [rb] w w' :=
 num_any xs rb p lb w hp h0 h1 (by have := hl.1; omega) hl.2.1 (fun i hi => hl.2.2.1 i _ (by rw [hv, List.getElem?_map, zdJ hi]; rfl)) h
theorem of_l (xs : List ByteArray) (vs : List Value) (hv : vs = xs.map Value.string) (rb p lb : Nat) (w : World) (hp : p ≤ 1000000000) (h0 : 1 ≤ xs.length) (h1 : xs.length ≤ 1000) (hl : Lst rb vs lb w) (h : Rdr w rb p) :
  Calls Try.prog 71 #[.pointer (some ⟨rb, 0, none⟩), .slice (some ⟨lb, 0, none⟩) xs.length xs.length] w fun e w' => (∃ x, x ∈ xs ∧ e = .returned (.string x)) ∧ Rdr w' rb (p + 1) ∧ Only [rb] w w' :=
 of_any xs rb p lb w hp h0 h1 (by have := hl.1; omega) hl.2.1 (fun i hi => hl.2.2.1 i _ (by rw [hv, List.getElem?_map, zdJ hi]; rfl)) h
theorem Own.set_ne {w : World} {base e k : Nat} {v : Value} {es : List (List CD)} {fp : List Nat} (h : Own w base e k v es fp) {b j : Nat} {u : Value} (hn : b ∉ fp) (ho : v.ownBlock ≠ some b) : Own (w.setCell ⟨b, j, none⟩ u) base e k v es fp :=
 h.same (zE (fun x hx (e : x = b) => hn (e ▸ hx))) fun x hx => Below.heap_setCell _ _ _ _ (fun e : x = b => ho (e ▸ hx))
theorem Fresh.set_ne {w : World} {lo : Nat} {fp : List Nat} (h : Fresh lo w fp) {b j : Nat} {u : Value} (hn : b ∉ fp) : Fresh lo (w.setCell ⟨b, j, none⟩ u) fp := h.same (zE (fun x hx (e : x = b) => hn (e ▸ hx)))
/-- Behind an append to what the variable bt holds, stored into the variable. -/
theorem zbZ {w U w7 : World} {rb q R bt base mid : Nat} {kv v7 x0 x1 y0 y1 : Value} {es es' : List (List CD)} {fo fn : List Nat} {T : TypeId} {f0 f1 : Bool}
  (hg : U.grownBy w7 kv.ownBlock) (hv7 : ∀ b, v7.ownBlock = some b → kv.ownBlock = some b ∨ U.heap.size ≤ b) (hs7 : SameOn (fo ++ fn) U w7) (hown : Own U base T 2 kv es fo) (hown7 : Own w7 base T 2 v7 es' (fo ++ fn)) (hfo : Fresh base U fo)
  (hfm : ∀ b ∈ fo, b < mid) (hbm : base ≤ mid) (hfn : Fresh mid U fn) (hbt : bt < mid) (hnfo : bt ∉ fo) (hnow : kv.ownBlock ≠ some bt) (hbtU : bt < U.heap.size) (hr : Rdr U rb q) (hrt : rb < bt) (hrb : rb < base) (hN : Only [rb] w U) (hwb : w.heap.size ≤ base) (hwt : w.heap.size ≤ bt)
  (hR : R < base) (hRU : R < U.heap.size) (hRt : R ≠ bt) (t0 : U.cell? ⟨bt, 0, none⟩ = some x0) (t1 : U.cell? ⟨bt, 1, none⟩ = some x1) (tf1 : U.frozen? ⟨bt, 1, none⟩ = false) (q0 : U.cell? ⟨R, 0, none⟩ = some y0) (q1 : U.cell? ⟨R, 1, none⟩ = some y1) (qf0 : U.frozen? ⟨R, 0, none⟩ = f0) (qf1 : U.frozen? ⟨R, 1, none⟩ = f1) :
  (w7.cell? ⟨bt, 1, none⟩ = some x1 ∧ w7.frozen? ⟨bt, 1, none⟩ = false ∧ w7.frozen? ⟨R, 0, none⟩ = f0 ∧ w7.frozen? ⟨R, 1, none⟩ = f1 ∧ w7.cell? ⟨R, 0, none⟩ = some y0 ∧ w7.cell? ⟨R, 1, none⟩ = some y1 ∧ w7.cell? ⟨bt, 0, none⟩ = some x0) ∧
  Own (w7.setCell ⟨bt, 1, none⟩ v7) base T 2 v7 es' (fo ++ fn) ∧ Fresh base (w7.setCell ⟨bt, 1, none⟩ v7) (fo ++ fn) ∧ Rdr (w7.setCell ⟨bt, 1, none⟩ v7) rb q ∧ Only [rb] w (w7.setCell ⟨bt, 1, none⟩ v7) ∧
  (w7.setCell ⟨bt, 1, none⟩ v7).cell? ⟨bt, 0, none⟩ = some x0 ∧ (w7.setCell ⟨bt, 1, none⟩ v7).cell? ⟨bt, 1, none⟩ = some v7 ∧ (w7.setCell ⟨bt, 1, none⟩ v7).cell? ⟨R, 0, none⟩ = some y0 ∧ (w7.setCell ⟨bt, 1, none⟩ v7).cell? ⟨R, 1, none⟩ = some y1 := by
 have hro : ∀ b, kv.ownBlock = some b → base ≤ b := fun b h => (hown.block h).1
 have hRo : kv.ownBlock ≠ some R := fun h => by have := hro _ h; omega
 have c0 := zi hg t0 hnow; have c1 := zi hg t1 hnow; have d0 := zi hg q0 hRo; have d1 := zi hg q1 hRo
 have hnf : bt ∉ fo ++ fn := fun h => by
  rcases zdA.1 h with h | h
  ·exact hnfo h
  ·have := (hfn.2 _ h).1; omega
 have hn7 : v7.ownBlock ≠ some bt := fun h => by
  rcases hv7 _ h with h1 | h1
  ·exact hnow h1
  ·omega
 have hfr := (Fresh.app hfo hfm hbm hfn).same hs7; refine ⟨⟨c1, zx hg hbtU tf1 hnow, zx hg hRU qf0 hRo, zx hg hRU qf1 hRo, d0, d1, c0⟩, hown7.set_ne hnf hn7, hfr.set_ne hnf, (hr.grown hg (fun b h => by have := hro b h; omega)).set hrt, (hN.grown hg (fun b h => by have := hro b h; omega)).set_new hwt, ?_, ?_, ?_, ?_⟩
 ·exact (zdN w7 ⟨bt, 1, none⟩ ⟨bt, 0, none⟩ v7 (by simp)).trans c0
 ·exact zdO w7 ⟨bt, 1, none⟩ v7 c1
 ·exact (zdN w7 ⟨bt, 1, none⟩ ⟨R, 0, none⟩ v7 (by intro e; simp only [Addr.mk.injEq] at e; exact hRt e.1.symm)).trans d0
 ·exact (zdN w7 ⟨bt, 1, none⟩ ⟨R, 1, none⟩ v7 (by intro e; simp only [Addr.mk.injEq] at e; exact hRt e.1.symm)).trans d1
theorem zcY {w wr : World} {cs ds es : List Value} {T U V : TypeId} (hb : Below (w.heap.size + 1 + 1 + 1) (((w.alloc (.cells cs.toArray T)).alloc (.cells ds.toArray U)).alloc (.cells es.toArray V)) wr) :
  (∀ j x, cs[j]? = some x → wr.cell? ⟨w.heap.size, j, none⟩ = some x) ∧ (∀ j x, ds[j]? = some x → wr.cell? ⟨w.heap.size + 1, j, none⟩ = some x) ∧ (∀ j x, es[j]? = some x → wr.cell? ⟨w.heap.size + 1 + 1, j, none⟩ = some x) ∧
  (∀ j, wr.frozen? ⟨w.heap.size + 1 + 1, j, none⟩ = false) ∧ w.heap.size + 1 + 1 + 1 ≤ wr.heap.size ∧ Below w.heap.size w wr := by
 have hs : (((w.alloc (.cells cs.toArray T)).alloc (.cells ds.toArray U)).alloc (.cells es.toArray V)).heap.size = w.heap.size + 1 + 1 + 1 := by simp
 have hb' : Below (((w.alloc (.cells cs.toArray T)).alloc (.cells ds.toArray U)).alloc (.cells es.toArray V)).heap.size (((w.alloc (.cells cs.toArray T)).alloc (.cells ds.toArray U)).alloc (.cells es.toArray V)) wr := by rw [hs]; exact hb
 have h2 := zj (w.alloc (.cells cs.toArray T)) ds U; have h3 := zj ((w.alloc (.cells cs.toArray T)).alloc (.cells ds.toArray U)) es V; have h4 := zar ((w.alloc (.cells cs.toArray T)).alloc (.cells ds.toArray U)) es.toArray V; rw [zdM] at h2; rw [zdM, zdM] at h3 h4; refine ⟨fun j x hx => zb (zQ (zQ (zj w cs T j x hx))) hb', fun j x hx => zb (zQ (h2 j x hx)) hb', fun j x hx => zb (h3 j x hx) hb', fun j => (zk (hb'.block _ (by rw [hs]; omega))).trans (h4 j), by have := hb'.size; omega, ?_⟩; exact ((((zdT _ _).alloc (zdI _) _).alloc (by simp) _).alloc (by simp; omega) _).trans (hb.mono (by omega))
/-- In the midst of l6Put: the new sum in its box, its rows the call's own. -/
structure PutSt (w W3 U : World) (kind bound : Int) (strict : Bool) (ns : List Tm) (ts : List Int) (vn vt : Value) (fn : List Nat) : Prop where
 bel : Below (w.heap.size + 1 + 1 + 1) W3 U
 c0 : U.cell? ⟨w.heap.size + 1 + 1 + 1, 0, none⟩ = some (.int .i64 kind)
 c1 : U.cell? ⟨w.heap.size + 1 + 1 + 1, 1, none⟩ = some (.string ⟨#[]⟩)
 c2 : U.cell? ⟨w.heap.size + 1 + 1 + 1, 2, none⟩ = some (.slice none 0 0)
 c3 : U.cell? ⟨w.heap.size + 1 + 1 + 1, 3, none⟩ = some (.string ⟨#[]⟩)
 c4 : U.cell? ⟨w.heap.size + 1 + 1 + 1, 4, none⟩ = some (.slice none 0 0)
 c5 : U.cell? ⟨w.heap.size + 1 + 1 + 1, 5, none⟩ = some vn
 c6 : U.cell? ⟨w.heap.size + 1 + 1 + 1, 6, none⟩ = some vt
 c7 : U.cell? ⟨w.heap.size + 1 + 1 + 1, 7, none⟩ = some (.int .i64 bound)
 c8 : U.cell? ⟨w.heap.size + 1 + 1 + 1, 8, none⟩ = some (.bool strict)
 z5 : U.frozen? ⟨w.heap.size + 1 + 1 + 1, 5, none⟩ = false
 z6 : U.frozen? ⟨w.heap.size + 1 + 1 + 1, 6, none⟩ = false
 own1 : Own U (w.heap.size + 1 + 1 + 1 + 1) 31 2 vn (ns.map Tm.cd) fn
 own2 : Own U (w.heap.size + 1 + 1 + 1 + 1) 3 1 vt (ts.map zm) []
 dj : ∀ g, vn.ownBlock = some g → vt.ownBlock ≠ some g
 fl : ∀ b ∈ fn, b < w.heap.size
 sz : w.heap.size + 1 + 1 + 1 + 1 ≤ U.heap.size
theorem PutSt.below {w W3 U U' : World} {kind bound : Int} {strict : Bool} {ns : List Tm} {ts : List Int} {vn vt : Value} {fn : List Nat} (h : PutSt w W3 U kind bound strict ns ts vn vt fn) (hb : Below U.heap.size U U') : PutSt w W3 U' kind bound strict ns ts vn vt fn := by
 have hz := h.sz; have hs := hb.size; exact ⟨h.bel.trans (hb.mono (by omega)), zb h.c0 hb, zb h.c1 hb, zb h.c2 hb, zb h.c3 hb, zb h.c4 hb, zb h.c5 hb, zb h.c6 hb, zb h.c7 hb, zb h.c8 hb, (zk (hb.block _ (by omega))).trans h.z5, (zk (hb.block _ (by omega))).trans h.z6, h.own1.below hb, h.own2.below hb, h.dj, h.fl, by omega⟩
/-- Behind an append to the terms. -/
theorem PutSt.N {w W3 U w' : World} {kind bound : Int} {strict : Bool} {ns ns' : List Tm} {ts : List Int} {vn vt v' : Value} {fn fn' : List Nat} (h : PutSt w W3 U kind bound strict ns ts vn vt fn) (hg : U.grownBy w' vn.ownBlock) (ho : Own w' (w.heap.size + 1 + 1 + 1 + 1) 31 2 v' (ns'.map Tm.cd) fn')
  (hv : ∀ b, v'.ownBlock = some b → vn.ownBlock = some b ∨ U.heap.size ≤ b) (hf : ∀ b ∈ fn', b < w.heap.size) : PutSt w W3 (w'.setCell ⟨w.heap.size + 1 + 1 + 1, 5, none⟩ v') kind bound strict ns' ts v' vt fn' := by
 have hz := h.sz; have hs := hg.size; have hr : ∀ q, vn.ownBlock = some q → w.heap.size + 1 + 1 + 1 + 1 ≤ q := fun q hq => (h.own1.block hq).1; have hr2 : ∀ q, vt.ownBlock = some q → w.heap.size + 1 + 1 + 1 + 1 ≤ q ∧ q < U.heap.size := fun q hq => h.own2.block hq
 have hne : vn.ownBlock ≠ some (w.heap.size + 1 + 1 + 1) := fun e => by have := hr _ e; omega
 have k : ∀ {j : Nat} {u : Value}, j ≠ 5 → U.cell? ⟨w.heap.size + 1 + 1 + 1, j, none⟩ = some u → (w'.setCell ⟨w.heap.size + 1 + 1 + 1, 5, none⟩ v').cell? ⟨w.heap.size + 1 + 1 + 1, j, none⟩ = some u := fun hj hc => (zdN _ _ _ _ (by intro e; simp only [Addr.mk.injEq] at e; omega)).trans (zi hg hc hne); have hb : Below (w.heap.size + 1 + 1 + 1) W3 w' := h.bel.grown hg (by omega) (fun q hq => by have := hr q hq; omega); refine ⟨hb.setCell (by simp) _, k (by omega) h.c0, k (by omega) h.c1, k (by omega) h.c2, k (by omega) h.c3, k (by omega) h.c4, zdO _ _ _ (zi hg h.c5 hne), k (by omega) h.c6, k (by omega) h.c7, k (by omega) h.c8, by simp [go_sem, zx hg (by omega) h.z5 hne], by simp [go_sem, zx hg (by omega) h.z6 hne], ?_, ?_, fun g hg1 => ?_, hf, by simp [World.setCell]; omega⟩
 ·exact ho.set_ne (fun hm => by have := hf _ hm; omega) (fun e => by have := (ho.block e).1; omega)
 ·refine (h.own2.same (w' := w') (fun b hb => by simp at hb) (fun b hb => hg.block b (hr2 b hb).2 (fun e => h.dj b e.symm hb))).set_ne (by simp) (fun e => by have := (hr2 _ e).1; omega)
 ·rcases hv g hg1 with h1 | h1
  ·exact h.dj g h1
  ·intro e; have := (hr2 _ e).2; omega
/-- Behind an append to the times. -/
theorem PutSt.T {w W3 U w' : World} {kind bound : Int} {strict : Bool} {ns : List Tm} {ts ts' : List Int} {vn vt v' : Value} {fn : List Nat} (h : PutSt w W3 U kind bound strict ns ts vn vt fn) (hg : U.grownBy w' vt.ownBlock) (ho : Own w' (w.heap.size + 1 + 1 + 1 + 1) 3 1 v' (ts'.map zm) [])
  (hv : ∀ b, v'.ownBlock = some b → vt.ownBlock = some b ∨ U.heap.size ≤ b) : PutSt w W3 (w'.setCell ⟨w.heap.size + 1 + 1 + 1, 6, none⟩ v') kind bound strict ns ts' vn v' fn := by
 have hz := h.sz; have hs := hg.size; have hr : ∀ q, vt.ownBlock = some q → w.heap.size + 1 + 1 + 1 + 1 ≤ q := fun q hq => (h.own2.block hq).1; have hr1 : ∀ q, vn.ownBlock = some q → w.heap.size + 1 + 1 + 1 + 1 ≤ q ∧ q < U.heap.size := fun q hq => h.own1.block hq
 have hne : vt.ownBlock ≠ some (w.heap.size + 1 + 1 + 1) := fun e => by have := hr _ e; omega
 have k : ∀ {j : Nat} {u : Value}, j ≠ 6 → U.cell? ⟨w.heap.size + 1 + 1 + 1, j, none⟩ = some u → (w'.setCell ⟨w.heap.size + 1 + 1 + 1, 6, none⟩ v').cell? ⟨w.heap.size + 1 + 1 + 1, j, none⟩ = some u := fun hj hc => (zdN _ _ _ _ (by intro e; simp only [Addr.mk.injEq] at e; omega)).trans (zi hg hc hne); have hb : Below (w.heap.size + 1 + 1 + 1) W3 w' := h.bel.grown hg (by omega) (fun q hq => by have := hr q hq; omega); refine ⟨hb.setCell (by simp) _, k (by omega) h.c0, k (by omega) h.c1, k (by omega) h.c2, k (by omega) h.c3, k (by omega) h.c4, k (by omega) h.c5, zdO _ _ _ (zi hg h.c6 hne), k (by omega) h.c7, k (by omega) h.c8, by simp [go_sem, zx hg (by omega) h.z5 hne], by simp [go_sem, zx hg (by omega) h.z6 hne], ?_, ?_, fun g hg1 e => ?_, h.fl, by simp [World.setCell]; omega⟩
 ·refine (h.own1.same (w' := w') (fun b hb => hg.block b (by have := h.fl b hb; omega) (fun e => by have := hr _ e.symm; have := h.fl b hb; omega)) (fun b hb => hg.block b (hr1 b hb).2 (fun e => h.dj b hb e.symm))).set_ne (fun hm => by have := h.fl _ hm; omega) (fun e => by have := (hr1 _ e).1; omega)
 ·exact ho.set_ne (by simp) (fun e => by have := (ho.block e).1; omega)
 ·rcases hv g e with h1 | h1
  ·exact h.dj g hg1 h1
  ·have := (hr1 _ hg1).2; omega
end Go.Proofs.Ytbfinjiledfpcaa
end
