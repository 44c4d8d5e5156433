/- Parts of the proof: SameLib Rdr3 Rdr4 Rdr5 Sig. -/
import Derived.Test.YtoehhbkhdddeeaaGreatDoorPf8
import Derived.Test.YtoehhbkhdddeeaaGreatDoorPf9
import Derived.Test.YtoehhbkhdddeeaaGreatDoorPf4
import Derived.Deep.RegionLaw
import Derived.Test.YtoehhbkhdddeeaaGreatDoorPf6
import Derived.Deep.RegionHeld3
import Derived.Deep.CutRange
import Derived.Deep.QuietTactic
import Derived.BigQuiet
import Derived.Lib.QuietBelow
section
namespace Go.Proofs.YtoehhbkhdddeeaaGreatDoor
open Go Go.RowKit
set_option linter.unusedVariables false
set_option linter.unusedSimpArgs false
set_option maxRecDepth 100000
set_option maxHeartbeats 16000000
mutual
def eqC : CD → CD → Bool
 | .int a, .int b => decide (a = b)
 | .str a, .str b => decide (a = b)
 | .bool a, .bool b => decide (a = b)
 | .sl a, .sl b => eqR a b
 | _, _ => false
def eqR : List (List CD) → List (List CD) → Bool
 | [], [] => true
 | a :: l, b :: l2 => eqV a b && eqR l l2
 | _, _ => false
def eqV : List CD → List CD → Bool
 | [], [] => true
 | a :: l, b :: l2 => eqC a b && eqV l l2
 | _, _ => false
end
mutual
theorem eqC_iff : ∀ (a b : CD), eqC a b = true ↔ a = b
 | .int a, b => by cases b <;> simp [eqC]
 | .str a, b => by cases b <;> simp [eqC]
 | .bool a, b => by cases b <;> simp [eqC]
 | .sl a, b => by cases b <;> simp [eqC, zbX a]
theorem zbX : ∀ (a b : List (List CD)), eqR a b = true ↔ a = b
 | [], b => by cases b <;> simp [eqR]
 | a :: l, b => by cases b <;> simp [eqR, zac a, zbX l]
theorem zac : ∀ (a b : List CD), eqV a b = true ↔ a = b
 | [], b => by cases b <;> simp [eqV]
 | a :: l, b => by cases b <;> simp [eqV, eqC_iff a, zac l]
end
theorem zcX (a : List CD) : eqV a a = true := (zac _ _).2 rfl
theorem eqV_no {a b : List CD} (h : a ≠ b) : eqV a b = false := by rw [Bool.eq_false_iff]; intro h'; exact h ((zac _ _).1 h')
theorem eqR_no {a b : List (List CD)} (h : a ≠ b) : eqR a b = false := by rw [Bool.eq_false_iff]; intro h'; exact h ((zbX _ _).1 h')
theorem eqV_ne {a b : List CD} (h : eqV a b = false) : a ≠ b := by rintro rfl; rw [zcX] at h; simp at h
theorem zbp {α : Type} {cd : α → List CD} {xs ys : List α} (h : xs.length ≠ ys.length) : eqR (xs.map cd) (ys.map cd) = false := eqR_no fun e => h (by have := congrArg List.length e; simpa using this)
/-- All up to a place alike. -/
def Alike {α : Type} (cd : α → List CD) (xs ys : List α) (k : Nat) : Prop := (xs.take k).map cd = (ys.take k).map cd
theorem Alike.zero {α : Type} {cd : α → List CD} {xs ys : List α} : Alike cd xs ys 0 := by simp [Alike]
theorem Alike.succ {α : Type} {cd : α → List CD} {xs ys : List α} {k : Nat} (h : Alike cd xs ys k) (h1 : k < xs.length) (h2 : k < ys.length) (he : eqV (cd xs[k]) (cd ys[k]) = true) : Alike cd xs ys (k + 1) := by
 unfold Alike at *
 rw [zdR h1, zdR h2, zdV, zdV, h, List.map_singleton, List.map_singleton, (zac _ _).1 he]
theorem Alike.all {α : Type} {cd : α → List CD} {xs ys : List α} {k : Nat} (h : Alike cd xs ys k) (h1 : xs.length ≤ k) (h2 : ys.length ≤ k) : eqR (xs.map cd) (ys.map cd) = true := by
 unfold Alike at h
 rw [List.take_of_length_le h1, List.take_of_length_le h2] at h
 exact (zbX _ _).2 h
theorem zaD {α : Type} {cd : α → List CD} {xs ys : List α} {k : Nat} (h1 : k < xs.length) (h2 : k < ys.length) (he : eqV (cd xs[k]) (cd ys[k]) = false) : eqR (xs.map cd) (ys.map cd) = false := eqR_no fun e => by
 have : (xs.map cd)[k]? = (ys.map cd)[k]? := by rw [e]
 simp [h1, h2] at this
 exact eqV_ne he this
theorem zat {a a' b b' : List CD} (h : a.length = a'.length) : eqV (a ++ b) (a' ++ b') = (eqV a a' && eqV b b') := by
 rw [Bool.eq_iff_iff, zdY, zac, zac, zac]
 exact ⟨fun e => List.append_inj e h, fun ⟨e, e'⟩ => by rw [e, e']⟩
theorem zcE (a b : Int) : eqV [.int a] [.int b] = decide (a = b) := by simp [eqV, eqC]
theorem eqV_str (a b : ByteArray) : eqV [.str a] [.str b] = decide (a = b) := by simp [eqV, eqC]
theorem zcY (a b : Bool) : eqV [.bool a] [.bool b] = decide (a = b) := by simp [eqV, eqC]
theorem eqV_sl (a b : List (List CD)) : eqV [.sl a] [.sl b] = eqR a b := by simp [eqV, eqC]
theorem zb {w1 w2 : World} {b j : Nat} {v : Value} (h : w1.cell? ⟨b, j, none⟩ = some v) (hb : Below w1.heap.size w1 w2) : w2.cell? ⟨b, j, none⟩ = some v := (hb.cell (p := ⟨b, j, none⟩) (World.block_lt_of_cell? w1 _ h)).trans h
theorem zaj {w : World} {α : Type} {cd : α → List CD} {xs : List α} {v : Value} {f : List Nat} (h : Rd w (.sl (xs.map cd)) v f) : xs.length ≤ 9223372036854775807 := by obtain ⟨a, c, _, h1, h2⟩ := ze h; omega
theorem int_beq (a b : Int) : (a == b) = decide (a = b) := rfl
theorem Tm.cd_mk (n : ByteArray) (ks : List Tm) : (Tm.mk n ks).cd = [.str n, .sl (ks.map Tm.cd)] := by rw [Tm.cd_eq]; rfl
mutual
theorem Tm.beq_cd : ∀ t u : Tm, t.beq u = eqV t.cd u.cd
 | .mk n ks, .mk m js => by
  rw [Tm.cd_mk, Tm.cd_mk]
  simp only [Tm.beq, eqV, eqC, Bool.and_true]
  rw [Tm.beqs_cd ks js]
theorem Tm.beqs_cd : ∀ ts us : List Tm, Tm.beqs ts us = eqR (ts.map Tm.cd) (us.map Tm.cd)
 | [], [] => by simp [Tm.beqs, eqR]
 | [], _ :: _ => by simp [Tm.beqs, eqR]
 | _ :: _, [] => by simp [Tm.beqs, eqR]
 | t :: ts, u :: us => by
  simp only [Tm.beqs, List.map_cons, eqR]
  rw [Tm.beq_cd t u, Tm.beqs_cd ts us]
end
theorem zaQ {w : World} {b n c k : Nat} {es : List (List CD)} {vs : List Value} {f : List Nat} (hc : ∀ j u, vs[j]? = some u → w.cell? ⟨b, j, none⟩ = some u) (h : RdVs w es.flatten vs f) (hne : es ≠ []) (hn : n = es.length) (hcap : es.length ≤ c) (hm : c ≤ 9223372036854775807) (hb : b < w.heap.size) :
  Rd w (.sl es) (.slice (some ⟨b, 0, none⟩) n c) (b :: f) := by
 simp only [Rd]
 exact ⟨_, c, by rw [hn], hcap, by simpa [maxLen] using hm, .inr ⟨hne, b, 0, f, rfl, hb, rfl, RdRows.mk (k := k) (fun j u hu => by rw [Nat.zero_add]; exact hc j u hu) h⟩⟩
theorem zcZ {w : World} {α : Type} {cd : α → List CD} (a : Option Addr) : Rd w (.sl (([] : List α).map cd)) (.slice a 0 0) [] := by
 simp only [List.map_nil, Rd]; exact ⟨a, 0, rfl, by simp, by simp [maxLen], by simp⟩
/-- Words that are drawn: few, of few arguments. -/
def Sg.few (s : Sg) : Prop := s.syms.length ≤ 5 ∧ ∀ y ∈ s.syms, y.args.length ≤ 2
theorem zj (w : World) (vs : List Value) (T : Nat) (j : Nat) (u : Value) (h : vs[j]? = some u) : (w.alloc (.cells vs.toArray T)).cell? ⟨w.heap.size, j, none⟩ = some u := by
 rw [zx]; simpa using h
theorem sym0 (w : World) (nm : ByteArray) (k : Int) (h : nm.size ≤ 9223372036854775807) (hk : -9223372036854775808 ≤ k ∧ k ≤ 9223372036854775807) : RdVs w (Sy.cd ⟨nm, [], k⟩) [.string nm, .slice none 0 0, .int .i64 k] [] :=
 Sy.close (x := ⟨nm, [], k⟩) (f1 := []) (by simpa [maxLen] using h) (zcZ none) hk
theorem zda {w : World} : ∀ (l : List Int), (∀ x ∈ l, I64 x) → RdVs w (l.map zm).flatten (l.map (Value.int .i64)) []
 | [], _ => by simp only [List.map_nil, List.flatten_nil, RdVs]; exact ⟨trivial, trivial⟩
 | x :: l, h => by
  have := (RdVs.single (w := w) (d := .int x) (v := .int .i64 x) (fp := []) (by simp only [Rd]; exact ⟨trivial, h x (by simp), trivial⟩)).app (zda l (fun y hy => h y (by simp [hy])))
  simpa [zm] using this
theorem sym1 (w : World) (nm : ByteArray) (l : List Int) (k : Int) (b : Nat) (h : nm.size ≤ 9223372036854775807) (hk : -9223372036854775808 ≤ k ∧ k ≤ 9223372036854775807) (hne : l ≠ []) (hl : l.length ≤ 1000) (ha : ∀ x ∈ l, I64 x) (hb : b < w.heap.size)
  (hc : ∀ j u, (l.map (Value.int .i64))[j]? = some u → w.cell? ⟨b, j, none⟩ = some u) : RdVs w (Sy.cd ⟨nm, l, k⟩) [.string nm, .slice (some ⟨b, 0, none⟩) l.length l.length, .int .i64 k] [b] :=
 Sy.close (x := ⟨nm, l, k⟩) (f1 := [b]) (by simpa [maxLen] using h) (zaQ (k := 1) hc (zda l ha) (by simpa using hne) (by simp) (by simp) (by omega) hb) hk
theorem Only.undrew {w w' : World} {fp : List Nat} (h : Only fp w.drew w') : Only fp w w' := ⟨h.os, h.tape, h.output, h.size, h.block⟩
theorem Only.set_new {w w' : World} {rb b i : Nat} {u : Value} (h : Only [rb] w w') (hb : w.heap.size ≤ b) : Only [rb] w (w'.setCell ⟨b, i, none⟩ u) :=
 ⟨h.os, h.tape, h.output, by simpa [World.setCell] using h.size, fun q hq hn => (Below.heap_setCell _ _ _ _ (by show q ≠ b; omega)).trans (h.block q hq hn)⟩
theorem Rdr.set {w : World} {rb p b i : Nat} {u : Value} (h : Rdr w rb p) (hb : rb < b) : Rdr (w.setCell ⟨b, i, none⟩ u) rb p := h.same (fun q hq => Below.heap_setCell _ _ _ _ (by show q ≠ b; omega))
theorem Only.free {w w' : World} {rb b i : Nat} {f : Bool} (h : Only [rb] w w') (hc : w.frozen? ⟨b, i, none⟩ = f) (hb : b < w.heap.size) (hne : b ≠ rb) : w'.frozen? ⟨b, i, none⟩ = f := zD (h.block b hb (by simpa using hne)) hc
theorem zS {wr w2 w4 : World} {o : Obj} {row : Option Nat} {b rb : Nat} (ho : Only [rb] wr w2) (hg : (w2.alloc o).grownBy w4 row) (hl : b < wr.heap.size) (hb : b ≠ rb) (hn : row ≠ some b) : w4.heap[b]? = wr.heap[b]? := by
 have h1 : b < w2.heap.size := zdQ hl ho.size
 exact ((hg.block b (by simp; omega) (fun e => hn e.symm)).trans ((za w2 o).block b h1)).trans (ho.block b hl (by simpa using hb))
def pcap : Nat → Nat | 0 => 0 | n + 1 => 1 + 2 * pcap n
theorem Fresh.notin {lo rb : Nat} {w : World} {fp : List Nat} (h : Fresh lo w fp) (hl : rb < lo) : rb ∉ fp := fun hm => by have := (h.2 _ hm).1; omega
theorem Own.set_row {w : World} {base e k : Nat} {v : Value} {es : List (List CD)} {fp : List Nat} (h : Own w base e k v es fp) {b j : Nat} {u : Value} (hb : b < base) (hn : b ∉ fp) : Own (w.setCell ⟨b, j, none⟩ u) base e k v es fp :=
 h.same (zy (fun x hx (e : x = b) => hn (e ▸ hx))) fun x hx => Below.heap_setCell _ _ _ _ (by have := (h.block hx).1; show x ≠ b; omega)
def Sg.words (s : Sg) (so deep : Int) (k : Nat) : List Sy := (s.syms.take k).filter fun y => (y.sort == so) && (decide (1 < deep) || ((y.args.length : Int) == 0))
theorem Sg.words_yes {s : Sg} {so deep : Int} {k : Nat} (hk : k < s.syms.length) (h : ((s.syms[k].sort == so) && (decide (1 < deep) || ((s.syms[k].args.length : Int) == 0))) = true) : s.words so deep (k + 1) = s.words so deep k ++ [s.syms[k]] := by
 unfold Sg.words; rw [zdR hk, List.filter_append, List.filter_cons, if_pos h, List.filter_nil]
theorem Sg.words_no {s : Sg} {so deep : Int} {k : Nat} (hk : k < s.syms.length) (h : ((s.syms[k].sort == so) && (decide (1 < deep) || ((s.syms[k].args.length : Int) == 0))) = false) : s.words so deep (k + 1) = s.words so deep k := by
 unfold Sg.words; rw [zdR hk, List.filter_append, List.filter_cons, if_neg (by simp [h]), List.filter_nil, List.append_nil]
theorem Sg.words_len (s : Sg) (so deep : Int) (k : Nat) : (s.words so deep k).length ≤ s.syms.length := by
 unfold Sg.words; have h1 := List.length_filter_le (fun y : Sy => (y.sort == so) && (decide (1 < deep) || ((y.args.length : Int) == 0))) (s.syms.take k); have h2 : (s.syms.take k).length ≤ s.syms.length := by simp; omega
 omega
theorem Sg.words_mem {s : Sg} {so deep : Int} {k : Nat} {y : Sy} (h : y ∈ s.words so deep k) : y ∈ s.syms ∧ (0 < y.args.length → 1 < deep) := by
 unfold Sg.words at h
 rw [List.mem_filter] at h
 refine ⟨List.mem_of_mem_take h.1, fun h0 => ?_⟩
 have h2 := h.2
 simp only [zdY, Bool.or_eq_true, decide_eq_true_eq, beq_iff_eq] at h2
 omega
/-- Block lb, made after the reader, holds vs, and may be written. -/
def Lst (rb : Nat) (vs : List Value) (lb : Nat) (w : World) : Prop := rb < lb ∧ lb < w.heap.size ∧ (∀ j u, vs[j]? = some u → w.cell? ⟨lb, j, none⟩ = some u) ∧ ∀ j, w.frozen? ⟨lb, j, none⟩ = false
theorem Lst.new {w : World} {rb : Nat} (h : rb < w.heap.size) (vs : List Value) (T : TypeId) : Lst rb vs w.heap.size (w.alloc (.cells vs.toArray T)) :=
 ⟨h, by simp, fun j u hu => zj w vs T j u hu, fun j => zan _ _ _ _⟩
theorem Lst.new1 {w : World} {rb : Nat} (h : rb < w.heap.size) (o : Obj) (vs : List Value) (T : TypeId) : Lst rb vs (w.heap.size + 1) ((w.alloc o).alloc (.cells vs.toArray T)) := by
 have h1 := Lst.new (w := w.alloc o) (rb := rb) (by rw [World.size_alloc]; omega) vs T
 rw [World.size_alloc] at h1; exact h1
theorem Lst.below {w w' : World} {rb lb : Nat} {vs : List Value} (h : Lst rb vs lb w) (hb : Below w.heap.size w w') : Lst rb vs lb w' :=
 ⟨h.1, zdQ h.2.1 hb.size, fun j u hu => zb (h.2.2.1 j u hu) hb, fun j => (zh (hb.block lb h.2.1)).trans (h.2.2.2 j)⟩
theorem Lst.alloc {w : World} {rb lb : Nat} {vs : List Value} (h : Lst rb vs lb w) (o : Obj) : Lst rb vs lb (w.alloc o) := h.below (za w o)
theorem Only.cellk {w w' : World} {rb b i : Nat} {u : Value} (h : Only [rb] w w') (hc : w.cell? ⟨b, i, none⟩ = some u) (hne : b ≠ rb) : w'.cell? ⟨b, i, none⟩ = some u := h.keep hc (World.block_lt_of_cell? w _ hc) hne
theorem Lst.drew {w : World} {rb lb : Nat} {vs : List Value} (h : Lst rb vs lb w) : Lst rb vs lb w.drew := h
theorem zJ {w : World} {o : Obj} {a : Addr} {v : Value} (h : w.cell? a = some v) : (w.alloc o).cell? a = some v := (World.cell?_of_block (w := w) ((za w o).block a.block (World.block_lt_of_cell? w _ h))).trans h
theorem zaR {w : World} {a : Addr} {v : Value} (h : w.cell? a = some v) : w.drew.cell? a = some v := h
theorem Lst.only {w w' : World} {rb lb : Nat} {vs : List Value} (h : Lst rb vs lb w) (ho : Only [rb] w w') : Lst rb vs lb w' :=
 ⟨h.1, zdQ h.2.1 ho.size, fun j u hu => ho.cellk (h.2.2.1 j u hu) (by have := h.1; omega), fun j => ho.free (h.2.2.2 j) h.2.1 (by have := h.1; omega)⟩
theorem Lst.use {G : Prop} {w w' : World} {rb lb : Nat} {vs : List Value} (ho : Only [rb] w w') (h : Lst rb vs lb w) (k : lb < w.heap.size → Lst rb vs lb w' → G) : G := k h.2.1 (h.only ho)
theorem num_l (xs : List Int) (vs : List Value) (hv : vs = xs.map (Value.int .i64)) (rb p lb : Nat) (w : World) (hp : p ≤ 1000000000) (h0 : 1 ≤ xs.length) (h1 : xs.length ≤ 1000) (hl : Lst rb vs lb w) (h : Rdr w rb p) :
  Calls Tryz.prog 11 #[.pointer (some ⟨rb, 0, none⟩), .slice (some ⟨lb, 0, none⟩) xs.length xs.length] w fun e w' => (∃ x, x ∈ xs ∧ e = .returned (.int .i64 x)) ∧ Rdr w' rb (p + 1) ∧ Only [rb] w w' :=
 num_any xs rb p lb w hp h0 h1 (by have := hl.1; omega) hl.2.1 (fun i hi => hl.2.2.1 i _ (by rw [hv, List.getElem?_map, List.getElem?_eq_getElem hi]; rfl)) h
theorem of_l (xs : List ByteArray) (vs : List Value) (hv : vs = xs.map Value.string) (rb p lb : Nat) (w : World) (hp : p ≤ 1000000000) (h0 : 1 ≤ xs.length) (h1 : xs.length ≤ 1000) (hl : Lst rb vs lb w) (h : Rdr w rb p) :
  Calls Tryz.prog 34 #[.pointer (some ⟨rb, 0, none⟩), .slice (some ⟨lb, 0, none⟩) xs.length xs.length] w fun e w' => (∃ x, x ∈ xs ∧ e = .returned (.string x)) ∧ Rdr w' rb (p + 1) ∧ Only [rb] w w' :=
 of_any xs rb p lb w hp h0 h1 (by have := hl.1; omega) hl.2.1 (fun i hi => hl.2.2.1 i _ (by rw [hv, List.getElem?_map, List.getElem?_eq_getElem hi]; rfl)) h
theorem Own.set_ne {w : World} {base e k : Nat} {v : Value} {es : List (List CD)} {fp : List Nat} (h : Own w base e k v es fp) {b j : Nat} {u : Value} (hn : b ∉ fp) (ho : v.ownBlock ≠ some b) : Own (w.setCell ⟨b, j, none⟩ u) base e k v es fp :=
 h.same (zy (fun x hx (e : x = b) => hn (e ▸ hx))) fun x hx => Below.heap_setCell _ _ _ _ (fun e : x = b => ho (e ▸ hx))
theorem Fresh.set_ne {w : World} {lo : Nat} {fp : List Nat} (h : Fresh lo w fp) {b j : Nat} {u : Value} (hn : b ∉ fp) : Fresh lo (w.setCell ⟨b, j, none⟩ u) fp := h.same (zy (fun x hx (e : x = b) => hn (e ▸ hx)))
/-- Behind an append to what the variable bt holds, stored into the variable. -/
theorem zcf {w U w7 : World} {rb q R bt base mid : Nat} {kv v7 x0 x1 y0 y1 : Value} {es es' : List (List CD)} {fo fn : List Nat} {T : TypeId} {f0 f1 : Bool}
  (hg : U.grownBy w7 kv.ownBlock) (hv7 : ∀ b, v7.ownBlock = some b → kv.ownBlock = some b ∨ U.heap.size ≤ b) (hs7 : SameOn (fo ++ fn) U w7) (hown : Own U base T 2 kv es fo) (hown7 : Own w7 base T 2 v7 es' (fo ++ fn)) (hfo : Fresh base U fo)
  (hfm : ∀ b ∈ fo, b < mid) (hbm : base ≤ mid) (hfn : Fresh mid U fn) (hbt : bt < mid) (hnfo : bt ∉ fo) (hnow : kv.ownBlock ≠ some bt) (hbtU : bt < U.heap.size) (hr : Rdr U rb q) (hrt : rb < bt) (hrb : rb < base) (hN : Only [rb] w U) (hwb : w.heap.size ≤ base) (hwt : w.heap.size ≤ bt)
  (hR : R < base) (hRU : R < U.heap.size) (hRt : R ≠ bt) (t0 : U.cell? ⟨bt, 0, none⟩ = some x0) (t1 : U.cell? ⟨bt, 1, none⟩ = some x1) (tf1 : U.frozen? ⟨bt, 1, none⟩ = false) (q0 : U.cell? ⟨R, 0, none⟩ = some y0) (q1 : U.cell? ⟨R, 1, none⟩ = some y1) (qf0 : U.frozen? ⟨R, 0, none⟩ = f0) (qf1 : U.frozen? ⟨R, 1, none⟩ = f1) :
  (w7.cell? ⟨bt, 1, none⟩ = some x1 ∧ w7.frozen? ⟨bt, 1, none⟩ = false ∧ w7.frozen? ⟨R, 0, none⟩ = f0 ∧ w7.frozen? ⟨R, 1, none⟩ = f1 ∧ w7.cell? ⟨R, 0, none⟩ = some y0 ∧ w7.cell? ⟨R, 1, none⟩ = some y1 ∧ w7.cell? ⟨bt, 0, none⟩ = some x0) ∧
  Own (w7.setCell ⟨bt, 1, none⟩ v7) base T 2 v7 es' (fo ++ fn) ∧ Fresh base (w7.setCell ⟨bt, 1, none⟩ v7) (fo ++ fn) ∧ Rdr (w7.setCell ⟨bt, 1, none⟩ v7) rb q ∧ Only [rb] w (w7.setCell ⟨bt, 1, none⟩ v7) ∧
  (w7.setCell ⟨bt, 1, none⟩ v7).cell? ⟨bt, 0, none⟩ = some x0 ∧ (w7.setCell ⟨bt, 1, none⟩ v7).cell? ⟨bt, 1, none⟩ = some v7 ∧ (w7.setCell ⟨bt, 1, none⟩ v7).cell? ⟨R, 0, none⟩ = some y0 ∧ (w7.setCell ⟨bt, 1, none⟩ v7).cell? ⟨R, 1, none⟩ = some y1 := by
 have hro : ∀ b, kv.ownBlock = some b → base ≤ b := fun b h => (hown.block h).1
 have hRo : kv.ownBlock ≠ some R := fun h => by have := hro _ h; omega
 have c0 := zg hg t0 hnow
 have c1 := zg hg t1 hnow
 have d0 := zg hg q0 hRo
 have d1 := zg hg q1 hRo
 have hnf : bt ∉ fo ++ fn := fun h => by
  rcases zdS.1 h with h | h
  ·exact hnfo h
  ·have := (hfn.2 _ h).1; omega
 have hn7 : v7.ownBlock ≠ some bt := fun h => by
  rcases hv7 _ h with h1 | h1
  ·exact hnow h1
  ·omega
 have hfr := (Fresh.app hfo hfm hbm hfn).same hs7
 refine ⟨⟨c1, zt hg hbtU tf1 hnow, zt hg hRU qf0 hRo, zt hg hRU qf1 hRo, d0, d1, c0⟩, hown7.set_ne hnf hn7, hfr.set_ne hnf, (hr.grown hg (fun b h => by have := hro b h; omega)).set hrt, (hN.grown hg (fun b h => by have := hro b h; omega)).set_new hwt, ?_, ?_, ?_, ?_⟩
 ·exact (World.cell?_setCell_other w7 ⟨bt, 1, none⟩ ⟨bt, 0, none⟩ v7 (by simp)).trans c0
 ·exact World.cell?_setCell_same w7 ⟨bt, 1, none⟩ v7 c1
 ·exact (World.cell?_setCell_other w7 ⟨bt, 1, none⟩ ⟨R, 0, none⟩ v7 (by intro e; simp only [Addr.mk.injEq] at e; exact hRt e.1.symm)).trans d0
 ·exact (World.cell?_setCell_other w7 ⟨bt, 1, none⟩ ⟨R, 1, none⟩ v7 (by intro e; simp only [Addr.mk.injEq] at e; exact hRt e.1.symm)).trans d1
def srtB (n : Int) : Bool := n == 0 || n == 1
def Sy.okB (x : Sy) : Bool := zO x.name && (decide (x.args.length ≤ 2) && (srtB x.sort && x.args.all srtB))
def nmLt (a b : ByteArray) : Bool := Op.bytesLess a.toList b.toList
def Sg.okAt (s : Sg) (k : Nat) : Bool :=
 match s.syms[k]? with
 | none => true
 | some x => x.okB && (match k with | 0 => true | j + 1 => (match s.syms[j]? with | none => true | some y => nmLt y.name x.name))
def Sg.okB (s : Sg) : Bool := (List.range s.syms.length).all s.okAt && decide (s.syms.length ≤ 7)
theorem Sg.okB_no {s : Sg} {k : Nat} (hk : k < s.syms.length) (h : s.okAt k = false) : s.okB = false := by
 have : (List.range s.syms.length).all s.okAt = false := by rw [List.all_eq_false]; exact ⟨k, by simpa using hk, by simp [h]⟩
 simp [Sg.okB, this]
theorem Sg.okB_all {s : Sg} {k : Nat} (hk : s.syms.length ≤ k) (h : ∀ j, j < k → s.okAt j = true) : s.okB = decide (s.syms.length ≤ 7) := by
 have : (List.range s.syms.length).all s.okAt = true := by rw [List.all_eq_true]; intro j hj; exact h j (by have := List.mem_range.1 hj; omega)
 simp [Sg.okB, this]
theorem Sg.okAt_bad {s : Sg} {k : Nat} (hk : k < s.syms.length) (h : s.syms[k].okB = false) : s.okAt k = false := by simp [Sg.okAt, List.getElem?_eq_getElem hk, h]
theorem Sg.okAt_zero {s : Sg} (hk : 0 < s.syms.length) (h : s.syms[0].okB = true) : s.okAt 0 = true := by simp [Sg.okAt, List.getElem?_eq_getElem hk, h]
theorem Sg.okAt_succ {s : Sg} {k : Nat} (hk : k + 1 < s.syms.length) (h : s.syms[k + 1].okB = true) : s.okAt (k + 1) = nmLt s.syms[k].name s.syms[k + 1].name := by
 simp [Sg.okAt, List.getElem?_eq_getElem hk, List.getElem?_eq_getElem (show k < s.syms.length by omega), h]
theorem zU (n : Int) (w : World) : Calls Tryz.prog 82 #[.int .i64 n] w fun e w' => e = .returned (.bool (srtB n)) ∧ w = w' := by
 cases h0 : (n == 0) <;> cases h1 : (n == 1)
 all_goals
  have HF : Hid (srtB n = ((n == 0) || (n == 1))) := Lib.hid rfl
  go_enter Tryz.func82, Tryz.ntmps82
  go_wp2
  go_ret
  exact ⟨retB (by rw [HF.out, h0, h1]; rfl), rfl⟩
theorem zbt {p : Int → Bool} {xs : List Int} {k : Nat} (hk : k < xs.length) (h : (xs.take k).all p = true) (h' : p xs[k] = true) : (xs.take (k + 1)).all p = true := by
 rw [zdR hk, List.all_append, h]; simp [h']
theorem zcg {p : Int → Bool} {xs : List Int} {k : Nat} (hk : k < xs.length) (h' : p xs[k] = false) : xs.all p = false := by
 rw [List.all_eq_false]; exact ⟨xs[k], zdT hk, by simp [h']⟩
end Go.Proofs.YtoehhbkhdddeeaaGreatDoor
end
