/- Parts of the proof: Rdr5 Bx9. -/
import Derived.Deep.RegionHeld3
import Derived.Deep.CutRange
import Derived.Test.YtlefdhhnlbpbkaaGreatPv19
import Derived.Test.YtlefdhhnlbpbkaaGreatPv8
import Derived.Test.YtlefdhhnlbpbkaaGreatPv9
section
namespace Go.Proofs.YtlefdhhnlbpbkaaGreat
open Go Go.RowKit
set_option linter.unusedVariables false
set_option linter.unusedSimpArgs false
set_option maxRecDepth 100000
set_option maxHeartbeats 16000000
/-- Block lb, made after the reader, holds vs, and may be written. -/
def Lst (rb : Nat) (vs : List Value) (lb : Nat) (w : World) : Prop := rb < lb ∧ lb < w.heap.size ∧ (∀ j u, vs[j]? = some u → w.cell? ⟨lb, j, none⟩ = some u) ∧ ∀ j, w.frozen? ⟨lb, j, none⟩ = false
theorem Lst.new {w : World} {rb : Nat} (h : rb < w.heap.size) (vs : List Value) (T : TypeId) : Lst rb vs w.heap.size (w.alloc (.cells vs.toArray T)) :=
 ⟨h, by simp, fun j u hu => zg w vs T j u hu, fun j => zJ _ _ _ _⟩
theorem Lst.new1 {w : World} {rb : Nat} (h : rb < w.heap.size) (o : Obj) (vs : List Value) (T : TypeId) : Lst rb vs (w.heap.size + 1) ((w.alloc o).alloc (.cells vs.toArray T)) := by
 have h1 := Lst.new (w := w.alloc o) (rb := rb) (by rw [World.size_alloc]; omega) vs T
 rw [World.size_alloc] at h1; exact h1
theorem Lst.below {w w' : World} {rb lb : Nat} {vs : List Value} (h : Lst rb vs lb w) (hb : Below w.heap.size w w') : Lst rb vs lb w' :=
 ⟨h.1, zep h.2.1 hb.size, fun j u hu => za (h.2.2.1 j u hu) hb, fun j => (zc (hb.block lb h.2.1)).trans (h.2.2.2 j)⟩
theorem Lst.alloc {w : World} {rb lb : Nat} {vs : List Value} (h : Lst rb vs lb w) (o : Obj) : Lst rb vs lb (w.alloc o) := h.below (zb w o)
theorem Only.cellk {w w' : World} {rb b i : Nat} {u : Value} (h : Only [rb] w w') (hc : w.cell? ⟨b, i, none⟩ = some u) (hne : b ≠ rb) : w'.cell? ⟨b, i, none⟩ = some u := h.keep hc (World.block_lt_of_cell? w _ hc) hne
theorem Lst.drew {w : World} {rb lb : Nat} {vs : List Value} (h : Lst rb vs lb w) : Lst rb vs lb w.drew := h
theorem zz {w : World} {o : Obj} {a : Addr} {v : Value} (h : w.cell? a = some v) : (w.alloc o).cell? a = some v := (World.cell?_of_block (w := w) ((zb w o).block a.block (World.block_lt_of_cell? w _ h))).trans h
theorem zaF {w : World} {a : Addr} {v : Value} (h : w.cell? a = some v) : w.drew.cell? a = some v := h
theorem Lst.only {w w' : World} {rb lb : Nat} {vs : List Value} (h : Lst rb vs lb w) (ho : Only [rb] w w') : Lst rb vs lb w' :=
 ⟨h.1, zep h.2.1 ho.size, fun j u hu => ho.cellk (h.2.2.1 j u hu) (by have := h.1; omega), fun j => ho.free (h.2.2.2 j) h.2.1 (by have := h.1; omega)⟩
theorem Lst.use {G : Prop} {w w' : World} {rb lb : Nat} {vs : List Value} (ho : Only [rb] w w') (h : Lst rb vs lb w) (k : lb < w.heap.size → Lst rb vs lb w' → G) : G := k h.2.1 (h.only ho)
theorem num_l (xs : List Int) (vs : List Value) (hv : vs = xs.map (Value.int .i64)) (rb p lb : Nat) (w : World) (hp : p ≤ 1000000000) (h0 : 1 ≤ xs.length) (h1 : xs.length ≤ 1000) (hl : Lst rb vs lb w) (h : Rdr w rb p) :
  Calls Tryz.prog 22 #[.pointer (some ⟨rb, 0, none⟩), .slice (some ⟨lb, 0, none⟩) xs.length xs.length] w fun e w' => (∃ x, x ∈ xs ∧ e = .returned (.int .i64 x)) ∧ Rdr w' rb (p + 1) ∧ Only [rb] w w' :=
 num_any xs rb p lb w hp h0 h1 (by have := hl.1; omega) hl.2.1 (fun i hi => hl.2.2.1 i _ (by rw [hv, List.getElem?_map, List.getElem?_eq_getElem hi]; rfl)) h
theorem of_l (xs : List ByteArray) (vs : List Value) (hv : vs = xs.map Value.string) (rb p lb : Nat) (w : World) (hp : p ≤ 1000000000) (h0 : 1 ≤ xs.length) (h1 : xs.length ≤ 1000) (hl : Lst rb vs lb w) (h : Rdr w rb p) :
  Calls Tryz.prog 51 #[.pointer (some ⟨rb, 0, none⟩), .slice (some ⟨lb, 0, none⟩) xs.length xs.length] w fun e w' => (∃ x, x ∈ xs ∧ e = .returned (.string x)) ∧ Rdr w' rb (p + 1) ∧ Only [rb] w w' :=
 of_any xs rb p lb w hp h0 h1 (by have := hl.1; omega) hl.2.1 (fun i hi => hl.2.2.1 i _ (by rw [hv, List.getElem?_map, List.getElem?_eq_getElem hi]; rfl)) h
theorem Own.set_ne {w : World} {base e k : Nat} {v : Value} {es : List (List CD)} {fp : List Nat} (h : Own w base e k v es fp) {b j : Nat} {u : Value} (hn : b ∉ fp) (ho : v.ownBlock ≠ some b) : Own (w.setCell ⟨b, j, none⟩ u) base e k v es fp :=
 h.same (zw (fun x hx (e : x = b) => hn (e ▸ hx))) fun x hx => Below.heap_setCell _ _ _ _ (fun e : x = b => ho (e ▸ hx))
theorem Fresh.set_ne {w : World} {lo : Nat} {fp : List Nat} (h : Fresh lo w fp) {b j : Nat} {u : Value} (hn : b ∉ fp) : Fresh lo (w.setCell ⟨b, j, none⟩ u) fp := h.same (zw (fun x hx (e : x = b) => hn (e ▸ hx)))
theorem zaZ {w w5 : World} {rb p q cap R base : Nat} {t : Tm} {kv u v : Value} {fp : List Nat} (hsz : t.size ≤ cap) (hnm : t.name.size ≤ maxLen) (hown : Own w5 base 29 2 kv (t.kids.map Tm.cd) fp) (hfr : Fresh base w5 fp)
  (hR : w.heap.size ≤ R) (hRb : R < base) (hr : Rdr w5 rb q) (hRr : rb < R) (hN : Only [rb] w w5) (hq : q ≤ p) :
  zdo w cap (.returned (.agg #[.string t.name, kv])) ((w5.setCell ⟨R, 0, none⟩ u).setCell ⟨R, 1, none⟩ v) ∧ Rdr ((w5.setCell ⟨R, 0, none⟩ u).setCell ⟨R, 1, none⟩ v) rb p ∧ Only [rb] w ((w5.setCell ⟨R, 0, none⟩ u).setCell ⟨R, 1, none⟩ v) := by
 have hn := hfr.notin hRb
 refine ⟨⟨t, kv, fp, hsz, rfl, hnm, ?_, ?_⟩, ((hr.set hRr).set hRr).mono hq, (hN.set_new hR).set_new hR⟩
 ·exact ((hown.set_row hRb hn).set_row hRb hn).base (fun q hq => by have := (hown.block hq).1; omega)
 ·exact (hfr.same (zW (hfr.ne hRb))).mono (by omega)
/-- Behind an append to what the variable bt holds, stored into the variable. -/
theorem zcU {w U w7 : World} {rb q R bt base mid : Nat} {kv v7 x0 x1 y0 y1 : Value} {es es' : List (List CD)} {fo fn : List Nat} {T : TypeId} {f0 f1 : Bool}
  (hg : U.grownBy w7 kv.ownBlock) (hv7 : ∀ b, v7.ownBlock = some b → kv.ownBlock = some b ∨ U.heap.size ≤ b) (hs7 : SameOn (fo ++ fn) U w7) (hown : Own U base T 2 kv es fo) (hown7 : Own w7 base T 2 v7 es' (fo ++ fn)) (hfo : Fresh base U fo)
  (hfm : ∀ b ∈ fo, b < mid) (hbm : base ≤ mid) (hfn : Fresh mid U fn) (hbt : bt < mid) (hnfo : bt ∉ fo) (hnow : kv.ownBlock ≠ some bt) (hbtU : bt < U.heap.size) (hr : Rdr U rb q) (hrt : rb < bt) (hrb : rb < base) (hN : Only [rb] w U) (hwb : w.heap.size ≤ base) (hwt : w.heap.size ≤ bt)
  (hR : R < base) (hRU : R < U.heap.size) (hRt : R ≠ bt) (t0 : U.cell? ⟨bt, 0, none⟩ = some x0) (t1 : U.cell? ⟨bt, 1, none⟩ = some x1) (tf1 : U.frozen? ⟨bt, 1, none⟩ = false) (q0 : U.cell? ⟨R, 0, none⟩ = some y0) (q1 : U.cell? ⟨R, 1, none⟩ = some y1) (qf0 : U.frozen? ⟨R, 0, none⟩ = f0) (qf1 : U.frozen? ⟨R, 1, none⟩ = f1) :
  (w7.cell? ⟨bt, 1, none⟩ = some x1 ∧ w7.frozen? ⟨bt, 1, none⟩ = false ∧ w7.frozen? ⟨R, 0, none⟩ = f0 ∧ w7.frozen? ⟨R, 1, none⟩ = f1 ∧ w7.cell? ⟨R, 0, none⟩ = some y0 ∧ w7.cell? ⟨R, 1, none⟩ = some y1 ∧ w7.cell? ⟨bt, 0, none⟩ = some x0) ∧
  Own (w7.setCell ⟨bt, 1, none⟩ v7) base T 2 v7 es' (fo ++ fn) ∧ Fresh base (w7.setCell ⟨bt, 1, none⟩ v7) (fo ++ fn) ∧ Rdr (w7.setCell ⟨bt, 1, none⟩ v7) rb q ∧ Only [rb] w (w7.setCell ⟨bt, 1, none⟩ v7) ∧
  (w7.setCell ⟨bt, 1, none⟩ v7).cell? ⟨bt, 0, none⟩ = some x0 ∧ (w7.setCell ⟨bt, 1, none⟩ v7).cell? ⟨bt, 1, none⟩ = some v7 ∧ (w7.setCell ⟨bt, 1, none⟩ v7).cell? ⟨R, 0, none⟩ = some y0 ∧ (w7.setCell ⟨bt, 1, none⟩ v7).cell? ⟨R, 1, none⟩ = some y1 := by
 have hro : ∀ b, kv.ownBlock = some b → base ≤ b := fun b h => (hown.block h).1
 have hRo : kv.ownBlock ≠ some R := fun h => by have := hro _ h; omega
 have c0 := zo hg t0 hnow
 have c1 := zo hg t1 hnow
 have d0 := zo hg q0 hRo
 have d1 := zo hg q1 hRo
 have hnf : bt ∉ fo ++ fn := fun h => by
  rcases zer.1 h with h | h
  ·exact hnfo h
  ·have := (hfn.2 _ h).1; omega
 have hn7 : v7.ownBlock ≠ some bt := fun h => by
  rcases hv7 _ h with h1 | h1
  ·exact hnow h1
  ·omega
 have hfr := (Fresh.app hfo hfm hbm hfn).same hs7
 refine ⟨⟨c1, zao hg hbtU tf1 hnow, zao hg hRU qf0 hRo, zao hg hRU qf1 hRo, d0, d1, c0⟩, hown7.set_ne hnf hn7, hfr.set_ne hnf, (hr.grown hg (fun b h => by have := hro b h; omega)).set hrt, (hN.grown hg (fun b h => by have := hro b h; omega)).set_new hwt, ?_, ?_, ?_, ?_⟩
 ·exact (World.cell?_setCell_other w7 ⟨bt, 1, none⟩ ⟨bt, 0, none⟩ v7 (by simp)).trans c0
 ·exact World.cell?_setCell_same w7 ⟨bt, 1, none⟩ v7 c1
 ·exact (World.cell?_setCell_other w7 ⟨bt, 1, none⟩ ⟨R, 0, none⟩ v7 (by intro e; simp only [Addr.mk.injEq] at e; exact hRt e.1.symm)).trans d0
 ·exact (World.cell?_setCell_other w7 ⟨bt, 1, none⟩ ⟨R, 1, none⟩ v7 (by intro e; simp only [Addr.mk.injEq] at e; exact hRt e.1.symm)).trans d1
/-- A variable of the call's own, that holds a drawn term. -/
def VarTm (rb B : Nat) (v : Value) (w : World) : Prop := ∃ (bt : Nat) (t : Tm) (ka : Option Addr) (kc base : Nat) (fo : List Nat), v = .pointer (some ⟨bt, 0, none⟩) ∧ t.size ≤ 15 ∧ t.name.size ≤ maxLen ∧ B ≤ base ∧ base ≤ w.heap.size ∧
 Own w base 29 2 (.slice ka t.kids.length kc) (t.kids.map Tm.cd) fo ∧ Fresh base w fo ∧ B ≤ bt ∧ bt ∉ fo ∧ (Value.slice ka t.kids.length kc).ownBlock ≠ some bt ∧ Lst rb [.string t.name, .slice ka t.kids.length kc] bt w
theorem zd6 {w3 : World} {rb B base T : Nat} {t : Tm} {ka : Option Addr} {kc : Nat} {fo : List Nat} (hsz : t.size ≤ 15) (hnm : t.name.size ≤ maxLen) (hbase : B ≤ base) (hown : Own w3 base 29 2 (.slice ka t.kids.length kc) (t.kids.map Tm.cd) fo) (hfr : Fresh base w3 fo)
  (hB : B ≤ w3.heap.size) (hrb : rb < w3.heap.size) (hbs : base ≤ w3.heap.size) : VarTm rb B (.pointer (some ⟨w3.heap.size, 0, none⟩)) (w3.alloc (.cells #[.string t.name, .slice ka t.kids.length kc] T)) := by
 have hba := zb w3 (.cells #[.string t.name, .slice ka t.kids.length kc] T)
 exact ⟨_, t, ka, kc, base, fo, rfl, hsz, hnm, hbase, Nat.le_trans hbs hba.size, hown.below hba, hfr.below hba, hB, fun h => by have := hfr.lt _ h; omega, fun h => by have := (hown.block h).2; omega, Lst.new hrb _ _⟩
theorem zcV {w3 : World} {rb B base bt : Nat} {t : Tm} {ka : Option Addr} {kc : Nat} {fo : List Nat} (hsz : t.size ≤ 15) (hnm : t.name.size ≤ maxLen) (hbase : B ≤ base) (hown : Own w3 base 29 2 (.slice ka t.kids.length kc) (t.kids.map Tm.cd) fo) (hfr : Fresh base w3 fo)
  (hB : B ≤ bt) (hbt : bt < base) (hv : Lst rb [.string ⟨#[]⟩, .slice none 0 0] bt w3) (hbs : base ≤ w3.heap.size) : VarTm rb B (.pointer (some ⟨bt, 0, none⟩)) ((w3.setCell ⟨bt, 0, none⟩ (.string t.name)).setCell ⟨bt, 1, none⟩ (.slice ka t.kids.length kc)) := by
 have hn := hfr.notin hbt
 obtain ⟨h1, h2, h3, h4⟩ := hv
 obtain ⟨z0, z1⟩ := zT (.string t.name) (.slice ka t.kids.length kc) (h3 0 _ rfl) (h3 1 _ rfl)
 refine ⟨_, t, ka, kc, base, fo, rfl, hsz, hnm, hbase, by simpa [World.setCell] using hbs, (hown.set_row hbt hn).set_row hbt hn, hfr.same (zW (hfr.ne hbt)), hB, hn, fun h => by have := (hown.block h).1; omega, h1, by simpa [World.setCell] using h2, fun j u hu => ?_, fun j => ?_⟩
 ·match j, hu with
  | 0, hu => obtain rfl := Option.some.inj hu; exact z0
  | 1, hu => obtain rfl := Option.some.inj hu; exact z1
 ·simp [go_sem, h4]
theorem zaK (s : Sg) (vs : List Value) (sf : List Nat) (rb p : Nat) (w : World) (hp : p + 20 ≤ 1000000000) (hfew : s.few) (hrd : RdVs w s.cd vs sf) (hnr : rb ∉ sf) (hr : Rdr w rb p) :
  Calls Tryz.prog 103 #[.pointer (some ⟨rb, 0, none⟩), .agg vs.toArray] w fun e w' => zdo w 45 e w' ∧ Rdr w' rb (p + 20) ∧ Only [rb] w w' := by
 obtain ⟨a0, c0, f0, rfl, rfl, m0⟩ := Sg.open hrd
 have hlt := hr.lt
 go_enter Tryz.func103, Tryz.ntmps103
 go_wp2_with fail
 generalize hW : (w.alloc (.cells #[.slice a0 s.syms.length c0] 25)).alloc (.cells #[.string ⟨#[]⟩, .slice none 0 0] 29) = W
 have hB : Below (w.heap.size + 1 + 1) ((w.alloc (.cells #[.slice a0 s.syms.length c0] 25)).alloc (.cells #[.string ⟨#[]⟩, .slice none 0 0] 29)) W := hW ▸ Below.refl _ _
 clear hW
 obtain ⟨hx, hy, hz, hb⟩ := box2 hB
 have x0 : W.cell? ⟨w.heap.size, 0, none⟩ = some (.slice a0 s.syms.length c0) := hx 0
 have r0 : W.cell? ⟨w.heap.size + 1, 0, none⟩ = some (.string ⟨#[]⟩) := hy 0
 have r1 : W.cell? ⟨w.heap.size + 1, 1, none⟩ = some (.slice none 0 0) := hy 1
 have rf0 := (zD hB 0).2
 have rf1 := (zD hB 1).2
 clear hx hy hB
 have hr0 := hr.below hb
 have hlW : rb < W.heap.size := by omega
 have hrd0 := hrd.below hb
 go_cut [5] from 9 to 16 (fun s5 wx => VarTm rb W.heap.size s5 wx ∧ Rdr wx rb (p + 17) ∧ Only [rb] W wx)
 case first =>
  have hN0 : Only [rb] W W.drew := Only.below (zi W)
  go_region_held3 (fun U => U.cell? ⟨w.heap.size, 0, none⟩ = some (.slice a0 s.syms.length c0))
   (((repeat (first | with_reducible assumption | with_reducible exact x0 | ((with_reducible refine hN0.cellk x0 ?_); (focus omega)) | ((with_reducible refine hN1.cellk x0 ?_); (focus omega)) | ((with_reducible refine hN2.cellk x0 ?_); (focus omega)) | ((with_reducible refine hN3.cellk x0 ?_); (focus omega)) | with_reducible refine zaF ?_ | with_reducible refine zz ?_ | ((with_reducible refine ho1.cellk ?_ ?_); rotate_left; (focus omega)) | ((with_reducible refine ho2.cellk ?_ ?_); rotate_left; (focus omega)) | ((with_reducible refine ho3.cellk ?_ ?_); rotate_left; (focus omega)) | ((with_reducible refine (World.cell?_setCell_other _ _ _ _ ?_).trans ?_); (focus (intro e; simp only [Addr.mk.injEq] at e; omega))))); done))
   (first
   | (go_at_call 23; (refine (zE rb p 2 _ (by omega) (by omega) (by omega) ?_).mono ?_); (first | exact hr0 | exact hr0.alloc _ | exact (hr0.alloc _).alloc _); rintro e w1 ⟨⟨m1, hm1, rfl⟩, hr1, ho1⟩; have hN1 : Only [rb] W w1 := (by first | exact hN0.trans ho1 | exact (hN0.alloc _).trans ho1 | exact ((hN0.alloc _).alloc _).trans ho1); have hl1 := hr1.lt; have hsz1 := hN1.size; try (first | (refine Lst.use (lb := W.heap.size) (vs := [.string ⟨#[]⟩, .slice none 0 0]) ho1 ?_ ?_; (focus ((repeat (first | assumption | with_reducible refine Lst.drew ?_ | ((with_reducible refine Lst.new ?_ _ _); first | exact hlW | omega | (simp; omega)) | ((with_reducible refine Lst.new1 ?_ _ _ _); first | exact hlW | omega | (simp; omega)) | with_reducible refine Lst.alloc ?_ _)); done)); intro hvl1 hv1) | (refine Lst.use (lb := (W.heap.size + 1)) (vs := [.string ⟨#[]⟩, .slice none 0 0]) ho1 ?_ ?_; (focus ((repeat (first | assumption | with_reducible refine Lst.drew ?_ | ((with_reducible refine Lst.new ?_ _ _); first | exact hlW | omega | (simp; omega)) | ((with_reducible refine Lst.new1 ?_ _ _ _); first | exact hlW | omega | (simp; omega)) | with_reducible refine Lst.alloc ?_ _)); done)); intro hvl1 hv1)))
   | (go_at_call 22; (refine (num_l [2, 3, 1, 4] [.int .i64 2, .int .i64 3, .int .i64 1, .int .i64 4] rfl rb (p + 1) _ _ (by omega) (by simp) (by simp) ?_ ?_).mono ?_); (focus ((repeat (first | assumption | with_reducible refine Lst.drew ?_ | ((with_reducible refine Lst.new ?_ _ _); first | exact hlW | exact hr1.lt | omega | (simp; omega)) | ((with_reducible refine Lst.new1 ?_ _ _ _); first | exact hlW | exact hr1.lt | omega | (simp; omega)) | with_reducible refine Lst.alloc ?_ _ | with_reducible refine Lst.only ?_ ho1)); done)); (first | exact hr1 | exact hr1.alloc _ | exact (hr1.alloc _).alloc _); rintro e w2 ⟨⟨d2, hd2, rfl⟩, hr2, ho2⟩; have hN2 : Only [rb] W w2 := (by first | exact hN1.trans ho2 | exact (hN1.alloc _).trans ho2 | exact ((hN1.alloc _).alloc _).trans ho2); have hl2 := hr2.lt; have hsz2 := hN2.size; have hd : 1 ≤ d2 ∧ d2 ≤ 4 := (by simp at hd2; omega); have hsf := hrd0.only hN2 hnr; try (first | (refine Lst.use (lb := W.heap.size) (vs := [.string ⟨#[]⟩, .slice none 0 0]) ho2 ?_ ?_; (focus ((repeat (first | assumption | with_reducible refine Lst.drew ?_ | ((with_reducible refine Lst.new ?_ _ _); first | exact hlW | exact hr1.lt | omega | (simp; omega)) | ((with_reducible refine Lst.new1 ?_ _ _ _); first | exact hlW | exact hr1.lt | omega | (simp; omega)) | with_reducible refine Lst.alloc ?_ _ | with_reducible refine Lst.only ?_ ho1)); done)); intro hvl2 hv2) | (refine Lst.use (lb := (W.heap.size + 1)) (vs := [.string ⟨#[]⟩, .slice none 0 0]) ho2 ?_ ?_; (focus ((repeat (first | assumption | with_reducible refine Lst.drew ?_ | ((with_reducible refine Lst.new ?_ _ _); first | exact hlW | exact hr1.lt | omega | (simp; omega)) | ((with_reducible refine Lst.new1 ?_ _ _ _); first | exact hlW | exact hr1.lt | omega | (simp; omega)) | with_reducible refine Lst.alloc ?_ _ | with_reducible refine Lst.only ?_ ho1)); done)); intro hvl2 hv2) | (refine Lst.use (lb := w1.heap.size) (vs := [.string ⟨#[]⟩, .slice none 0 0]) ho2 ?_ ?_; (focus ((repeat (first | assumption | with_reducible refine Lst.drew ?_ | ((with_reducible refine Lst.new ?_ _ _); first | exact hlW | exact hr1.lt | omega | (simp; omega)) | ((with_reducible refine Lst.new1 ?_ _ _ _); first | exact hlW | exact hr1.lt | omega | (simp; omega)) | with_reducible refine Lst.alloc ?_ _ | with_reducible refine Lst.only ?_ ho1)); done)); intro hvl2 hv2) | (refine Lst.use (lb := (w1.heap.size + 1)) (vs := [.string ⟨#[]⟩, .slice none 0 0]) ho2 ?_ ?_; (focus ((repeat (first | assumption | with_reducible refine Lst.drew ?_ | ((with_reducible refine Lst.new ?_ _ _); first | exact hlW | exact hr1.lt | omega | (simp; omega)) | ((with_reducible refine Lst.new1 ?_ _ _ _); first | exact hlW | exact hr1.lt | omega | (simp; omega)) | with_reducible refine Lst.alloc ?_ _ | with_reducible refine Lst.only ?_ ho1)); done)); intro hvl2 hv2)))
   | (go_at_call 102; (refine (zbF 4 s _ sf _ _ rb (p + 1 + 1) _ hd.1 (by omega) (by omega) (by simp only [pcap]; omega) hfew (by first | exact hsf | exact hsf.below (zb _ _)) hnr ?_).mono ?_); (first | exact hr2 | exact hr2.alloc _ | exact (hr2.alloc _).alloc _); rintro e w3 ⟨⟨t, kv, fo, hsz, rfl, hnm, hown, hfo⟩, hr3, ho3⟩; have hN3 : Only [rb] W w3 := (by first | exact hN2.trans ho3 | exact (hN2.alloc _).trans ho3 | exact ((hN2.alloc _).alloc _).trans ho3); have hl3 := hr3.lt; have hsz3 := hN3.size; obtain ⟨ka, kc, hkv, hk1, hk2⟩ := hown.form; rw [zew] at hkv hk1; subst hkv; try (first | (refine Lst.use (lb := W.heap.size) (vs := [.string ⟨#[]⟩, .slice none 0 0]) ho3 ?_ ?_; (focus ((repeat (first | assumption | with_reducible refine Lst.drew ?_ | ((with_reducible refine Lst.new ?_ _ _); first | exact hlW | exact hr1.lt | exact hr2.lt | omega | (simp; omega)) | ((with_reducible refine Lst.new1 ?_ _ _ _); first | exact hlW | exact hr1.lt | exact hr2.lt | omega | (simp; omega)) | with_reducible refine Lst.alloc ?_ _ | with_reducible refine Lst.only ?_ ho1 | with_reducible refine Lst.only ?_ ho2)); done)); intro hvl3 hv3; have vf0 := hv3.2.2.2 0; have vf1 := hv3.2.2.2 1; have vc0 := hv3.2.2.1 0 _ rfl; have vc1 := hv3.2.2.1 1 _ rfl) | (refine Lst.use (lb := (W.heap.size + 1)) (vs := [.string ⟨#[]⟩, .slice none 0 0]) ho3 ?_ ?_; (focus ((repeat (first | assumption | with_reducible refine Lst.drew ?_ | ((with_reducible refine Lst.new ?_ _ _); first | exact hlW | exact hr1.lt | exact hr2.lt | omega | (simp; omega)) | ((with_reducible refine Lst.new1 ?_ _ _ _); first | exact hlW | exact hr1.lt | exact hr2.lt | omega | (simp; omega)) | with_reducible refine Lst.alloc ?_ _ | with_reducible refine Lst.only ?_ ho1 | with_reducible refine Lst.only ?_ ho2)); done)); intro hvl3 hv3; have vf0 := hv3.2.2.2 0; have vf1 := hv3.2.2.2 1; have vc0 := hv3.2.2.1 0 _ rfl; have vc1 := hv3.2.2.1 1 _ rfl) | (refine Lst.use (lb := w1.heap.size) (vs := [.string ⟨#[]⟩, .slice none 0 0]) ho3 ?_ ?_; (focus ((repeat (first | assumption | with_reducible refine Lst.drew ?_ | ((with_reducible refine Lst.new ?_ _ _); first | exact hlW | exact hr1.lt | exact hr2.lt | omega | (simp; omega)) | ((with_reducible refine Lst.new1 ?_ _ _ _); first | exact hlW | exact hr1.lt | exact hr2.lt | omega | (simp; omega)) | with_reducible refine Lst.alloc ?_ _ | with_reducible refine Lst.only ?_ ho1 | with_reducible refine Lst.only ?_ ho2)); done)); intro hvl3 hv3; have vf0 := hv3.2.2.2 0; have vf1 := hv3.2.2.2 1; have vc0 := hv3.2.2.1 0 _ rfl; have vc1 := hv3.2.2.1 1 _ rfl) | (refine Lst.use (lb := (w1.heap.size + 1)) (vs := [.string ⟨#[]⟩, .slice none 0 0]) ho3 ?_ ?_; (focus ((repeat (first | assumption | with_reducible refine Lst.drew ?_ | ((with_reducible refine Lst.new ?_ _ _); first | exact hlW | exact hr1.lt | exact hr2.lt | omega | (simp; omega)) | ((with_reducible refine Lst.new1 ?_ _ _ _); first | exact hlW | exact hr1.lt | exact hr2.lt | omega | (simp; omega)) | with_reducible refine Lst.alloc ?_ _ | with_reducible refine Lst.only ?_ ho1 | with_reducible refine Lst.only ?_ ho2)); done)); intro hvl3 hv3; have vf0 := hv3.2.2.2 0; have vf1 := hv3.2.2.2 1; have vc0 := hv3.2.2.1 0 _ rfl; have vc1 := hv3.2.2.1 1 _ rfl) | (refine Lst.use (lb := w2.heap.size) (vs := [.string ⟨#[]⟩, .slice none 0 0]) ho3 ?_ ?_; (focus ((repeat (first | assumption | with_reducible refine Lst.drew ?_ | ((with_reducible refine Lst.new ?_ _ _); first | exact hlW | exact hr1.lt | exact hr2.lt | omega | (simp; omega)) | ((with_reducible refine Lst.new1 ?_ _ _ _); first | exact hlW | exact hr1.lt | exact hr2.lt | omega | (simp; omega)) | with_reducible refine Lst.alloc ?_ _ | with_reducible refine Lst.only ?_ ho1 | with_reducible refine Lst.only ?_ ho2)); done)); intro hvl3 hv3; have vf0 := hv3.2.2.2 0; have vf1 := hv3.2.2.2 1; have vc0 := hv3.2.2.1 0 _ rfl; have vc1 := hv3.2.2.1 1 _ rfl) | (refine Lst.use (lb := (w2.heap.size + 1)) (vs := [.string ⟨#[]⟩, .slice none 0 0]) ho3 ?_ ?_; (focus ((repeat (first | assumption | with_reducible refine Lst.drew ?_ | ((with_reducible refine Lst.new ?_ _ _); first | exact hlW | exact hr1.lt | exact hr2.lt | omega | (simp; omega)) | ((with_reducible refine Lst.new1 ?_ _ _ _); first | exact hlW | exact hr1.lt | exact hr2.lt | omega | (simp; omega)) | with_reducible refine Lst.alloc ?_ _ | with_reducible refine Lst.only ?_ ho1 | with_reducible refine Lst.only ?_ ho2)); done)); intro hvl3 hv3; have vf0 := hv3.2.2.2 0; have vf1 := hv3.2.2.2 1; have vc0 := hv3.2.2.1 0 _ rfl; have vc1 := hv3.2.2.1 1 _ rfl))))
  all_goals
   have hr3' : Rdr w3 rb (p + 17) := hr3
   have hsz' : t.size ≤ 15 := hsz
   go_wp2_with fail
   go_meet
   case rel =>
    first
     | exact ⟨zd6 hsz' hnm (by omega) hown hfo (by omega) (by omega) ho3.size, hr3'.alloc _, hN3.alloc _⟩
     | exact ⟨zcV hsz' hnm (by rw [World.size_alloc]; omega) hown hfo (by omega) hvl3 hv3 ho3.size, (hr3'.set (by omega)).set (by omega), (hN3.set_new (by omega)).set_new (by omega)⟩
     | exact ⟨zcV hsz' hnm (by omega) hown hfo (by omega) hvl3 hv3 ho3.size, (hr3'.set (by omega)).set (by omega), (hN3.set_new (by omega)).set_new (by omega)⟩
 case rest =>
 obtain ⟨⟨bt, t, ka, kc, base, fo, rfl, hsz, hnm, hbase, hbsz, hown, hfo, hbt, hnfo, hnow, hlst⟩, hr1, hN⟩ := hcut
 have hNw : Only [rb] w wc := (Only.below hb).trans hN
 have hzN := hN.size
 have hdec : Tm.sizes t.kids + 1 = t.size := by rw [Tm.size_eq]; omega
 have q0 := hN.cellk r0 (by omega)
 have q1 := hN.cellk r1 (by omega)
 have qf0 := hN.free rf0 (by omega) (by omega)
 have qf1 := hN.free rf1 (by omega) (by omega)
 clear x0 r0 r1 rf0 rf1 hrd0 hr0 hb hrd m0 hN
 go_wp2_with fail
 refine (zE rb (p + 17) 48 _ (by omega) (by omega) (by omega) hr1).mono ?_
 rintro e w5 ⟨⟨m, hm, rfl⟩, hr5, ho5⟩
 have hz5 := ho5.size
 replace q0 := ho5.cellk q0 (by omega)
 replace q1 := ho5.cellk q1 (by omega)
 replace qf0 := ho5.free qf0 (by omega) (by omega)
 replace qf1 := ho5.free qf1 (by omega) (by omega)
 replace hown := hown.only ho5 (by omega) (hfo.notin (by omega))
 replace hfo := hfo.only ho5 (by omega)
 replace hlst := hlst.only ho5
 replace hNw := hNw.trans ho5
 have t0 := hlst.2.2.1 0 _ rfl
 have t1 := hlst.2.2.1 1 _ rfl
 have tf0 := hlst.2.2.2 0
 have tf1 := hlst.2.2.2 1
 have hlb := hlst.2.1
 clear hlst ho5 hr1
 by_cases hm0 : m = 0
 ·subst hm0
  go_wp2_with fail
  refine (of_l [⟨#[]⟩, ⟨#[65]⟩, ⟨#[97, 98, 99]⟩, ⟨#[102]⟩] [.string ⟨#[]⟩, .string ⟨#[65]⟩, .string ⟨#[97, 98, 99]⟩, .string ⟨#[102]⟩] rfl rb (p + 17 + 1) _ _ (by omega) (by simp) (by simp) (Lst.new (by omega) _ _) (hr5.alloc _)).mono ?_
  rintro e w6 ⟨⟨nm, hmem, rfl⟩, hr6, ho6⟩
  have hnm6 : nm.size ≤ maxLen := by simp at hmem; rcases hmem with rfl | rfl | rfl | rfl <;> decide
  clear hmem
  have hN6 := (Only.below (zb w5 (.cells #[.string ⟨#[]⟩, .string ⟨#[65]⟩, .string ⟨#[97, 98, 99]⟩, .string ⟨#[102]⟩] 9))).trans ho6
  have hz6 := hN6.size
  clear ho6
  replace q0 := hN6.cellk q0 (by omega)
  replace q1 := hN6.cellk q1 (by omega)
  replace qf0 := hN6.free qf0 (by omega) (by omega)
  replace qf1 := hN6.free qf1 (by omega) (by omega)
  replace t0 := hN6.cellk t0 (by omega)
  replace t1 := hN6.cellk t1 (by omega)
  replace tf0 := hN6.free tf0 (by omega) (by omega)
  replace tf1 := hN6.free tf1 (by omega) (by omega)
  replace hown := (hown.only hN6 (by omega) (hfo.notin (by omega))).set_ne (b := bt) (j := 0) (u := .string nm) hnfo hnow
  replace hfo := (hfo.only hN6 (by omega)).set_ne (b := bt) (j := 0) (u := .string nm) hnfo
  replace hNw := hNw.trans hN6
  clear hN6
  have u0 := World.cell?_setCell_same w6 ⟨bt, 0, none⟩ (.string nm) t0
  have u1 := (World.cell?_setCell_other w6 ⟨bt, 0, none⟩ ⟨bt, 1, none⟩ (.string nm) (by simp)).trans t1
  have p0 := (World.cell?_setCell_other w6 ⟨bt, 0, none⟩ ⟨w.heap.size + 1, 0, none⟩ (.string nm) (by intro e; simp only [Addr.mk.injEq] at e; omega)).trans q0
  have p1 := (World.cell?_setCell_other w6 ⟨bt, 0, none⟩ ⟨w.heap.size + 1, 1, none⟩ (.string nm) (by intro e; simp only [Addr.mk.injEq] at e; omega)).trans q1
  obtain ⟨z0, z1⟩ := zT (.string nm) (.slice ka t.kids.length kc) p0 p1
  go_wp2_with fail
  exact bodyPost_ret (v := .agg #[.string nm, .slice ka t.kids.length kc]) (by simp [results, Tryz.results103, go_sem, z0, z1]) rfl (zaZ (t := .mk nm t.kids) (by simp only [Tm.size]; omega) hnm6 hown hfo (by omega) (by omega) (hr6.set (by omega)) (by omega) (hNw.set_new (by omega)) (by omega))
 have hfm := hfo.lt
 have hkl : ((t.kids.map Tm.cd)).length ≤ 100 := by rw [zew]; have := Tm.sizes_len t.kids; omega
 obtain ⟨ff, hrd, hfree, _⟩ := hown.fresh hfo
 clear tf0
 by_cases hm1 : m = 1
 ·subst hm1
  clear hm0
  go_wp2_with fail
  refine (zS t.size t _ _ (Nat.le_refl _) (by omega) (TmR.mk hnm ⟨ff, hrd⟩)).mono ?_
  rintro e w6 ⟨kv6, fp6, rfl, hr6', hf6, hb6⟩
  obtain ⟨a6, c6, rfl, hg1, hg2⟩ := zae hr6'
  have hz6 := hb6.size
  have t06 := za t0 hb6
  have t16 := za t1 hb6
  have hba : Below w6.heap.size w6 ((w6.alloc (.cells #[.string t.name, .slice a6 t.kids.length c6] 29)).alloc (.cells #[.string t.name, .slice a6 t.kids.length c6] 29)) := ((Below.refl _ _).alloc (Nat.le_refl _) _).alloc (by simp) _
  have HB := hb6.trans (hba.mono hz6)
  have hownU := hown.below HB
  have hfoU := hfo.below HB
  have hrn := hr6'.below hba
  have hfnU := hf6.below hba
  have hsU : ((w6.alloc (.cells #[.string t.name, .slice a6 t.kids.length c6] 29)).alloc (.cells #[.string t.name, .slice a6 t.kids.length c6] 29)).heap.size = w6.heap.size + 1 + 1 := by simp
  replace q0 := za q0 HB
  replace q1 := za q1 HB
  replace qf0 := (zc (HB.block (w.heap.size + 1) (by omega))).trans qf0
  replace qf1 := (zc (HB.block (w.heap.size + 1) (by omega))).trans qf1
  replace t0 := za t0 HB
  replace t1 := za t1 HB
  replace tf1 := (zc (HB.block bt (by omega))).trans tf1
  replace hr5 := hr5.below HB
  replace hNw := hNw.trans (Only.below HB)
  have hbt6 : bt < w6.heap.size := by omega
  go_wp2_with (at_builtin; refine zp zal rfl _ _ rfl base _ _ _ rfl hownU ⟨w6.heap.size + 1, 0, none⟩ 1 1 [t.cd] [.string t.name, .slice a6 t.kids.length c6] fp6 rfl rfl ?rd ?k ?cells ?na ?bytes ?len ?base ?next)
  case rd => simpa using Tm.rdvs hnm hrn
  case k => simp [Tm.cd_len]
  case cells => have h := zn (w6.alloc (.cells #[.string t.name, .slice a6 t.kids.length c6] 29)) [.string t.name, .slice a6 t.kids.length c6] 29; rw [World.size_alloc] at h; exact h
  case na => exact hown.away (Nat.le_refl _) hfnU
  case bytes => omega
  case len => omega
  case base => omega
  case next =>
   intro v8 w8 hown8 hg hv8 hs8
   obtain ⟨a8, c8, hv8e, hk8, hm8⟩ := hown8.form
   obtain ⟨⟨c1, cf1, f0, f1, d0, d1, c0⟩, k1, k2, k3, k4, k5, k6, k7, k8⟩ := zcU (R := w.heap.size + 1) (bt := bt) (mid := w5.heap.size) hg (by rw [hsU]; exact hv8) hs8 hownU hown8 hfoU hfm (by omega) hfnU (by omega) hnfo hnow (by rw [hsU]; omega) hr5 (by omega) (by omega) hNw (by omega) (by omega) (by omega) (by rw [hsU]; omega) (by omega) t0 t1 tf1 q0 q1 qf0 qf1
   have hl8 : (t.kids.map Tm.cd ++ [t.cd]).length = t.kids.length + 1 := by simp
   rw [hl8] at hv8e
   subst hv8e
   clear hg hv8 hs8 hown8 t0 t1 tf1 q0 q1 qf0 qf1 hownU hfoU hfnU
   obtain ⟨z0, z1⟩ := zT (.string t.name) (.slice a8 (t.kids.length + 1) c8) k7 k8
   have hsn : Tm.sizes [t] = 1 * t.size := by simp [Tm.sizes]; try omega
   go_wp2_with fail
   exact bodyPost_ret (v := .agg #[.string t.name, .slice a8 (t.kids.length + 1) c8]) (by simp [results, Tryz.results103, go_sem, z0, z1]) rfl (zaZ (t := .mk t.name (t.kids ++ [t])) (by simp only [Tm.size, Tm.sizes_append, hsn]; omega) hnm (by simpa [Tm.kids, zeu] using k1) k2 (by omega) (by omega) k3 (by omega) k4 (by omega))
 by_cases hm2 : m = 2
 ·subst hm2
  clear hm0 hm1
  go_wp2_with fail
  refine (zS t.size t _ _ (Nat.le_refl _) (by omega) (TmR.mk hnm ⟨ff, hrd⟩)).mono ?_
  rintro e w6 ⟨kv6, fp6, rfl, hr6', hf6, hb6⟩
  obtain ⟨a6, c6, rfl, hg1, hg2⟩ := zae hr6'
  have hz6 := hb6.size
  have t06 := za t0 hb6
  have t16 := za t1 hb6
  have hbt6 : bt < w6.heap.size := by omega
  have hrd6 := (hrd.below hb6).below (zb w6 (.cells #[.string t.name, .slice a6 t.kids.length c6] 29))
  go_wp2_with fail
  refine (zS t.size t _ _ (Nat.le_refl _) (by omega) (TmR.mk hnm ⟨ff, hrd6⟩)).mono ?_
  rintro e w7 ⟨kv7, fp7, rfl, hr7', hf7, hb7⟩
  obtain ⟨a7, c7, rfl, hg3, hg4⟩ := zae hr7'
  have hz7 := hb7.size
  rw [World.size_alloc] at hz7
  have hb67 := (zb w6 (.cells #[.string t.name, .slice a6 t.kids.length c6] 29)).trans (hb7.mono (by simp))
  have x60 : w7.cell? ⟨w6.heap.size, 0, none⟩ = some (.string t.name) := za (zg w6 _ _ 0 _ rfl) hb7
  have x61 : w7.cell? ⟨w6.heap.size, 1, none⟩ = some (.slice a6 t.kids.length c6) := za (zg w6 _ _ 1 _ rfl) hb7
  have t07 := za t06 hb67
  have t17 := za t16 hb67
  have hbt7 : bt < w7.heap.size := by omega
  have hl67 : w6.heap.size < w7.heap.size := by omega
  have hba : Below w7.heap.size w7 ((w7.alloc (.cells #[.string t.name, .slice a7 t.kids.length c7] 29)).alloc (.cells #[.string t.name, .slice a6 t.kids.length c6, .string t.name, .slice a7 t.kids.length c7] 29)) := ((Below.refl _ _).alloc (Nat.le_refl _) _).alloc (by simp) _
  have hb6U := hb67.trans (hba.mono (by omega))
  have HB := hb6.trans (hb6U.mono hz6)
  have hownU := hown.below HB
  have hfoU := hfo.below HB
  have hrn6 := hr6'.below hb6U
  have hrn7 := hr7'.below hba
  have hfnU : Fresh w5.heap.size ((w7.alloc (.cells #[.string t.name, .slice a7 t.kids.length c7] 29)).alloc (.cells #[.string t.name, .slice a6 t.kids.length c6, .string t.name, .slice a7 t.kids.length c7] 29)) (fp6 ++ fp7) := Fresh.app (hf6.below hb6U) hf6.lt hz6 ((hf7.below hba).mono (by simp))
  have hsU : ((w7.alloc (.cells #[.string t.name, .slice a7 t.kids.length c7] 29)).alloc (.cells #[.string t.name, .slice a6 t.kids.length c6, .string t.name, .slice a7 t.kids.length c7] 29)).heap.size = w7.heap.size + 1 + 1 := by simp
  replace q0 := za q0 HB
  replace q1 := za q1 HB
  replace qf0 := (zc (HB.block (w.heap.size + 1) (by omega))).trans qf0
  replace qf1 := (zc (HB.block (w.heap.size + 1) (by omega))).trans qf1
  replace t0 := za t0 HB
  replace t1 := za t1 HB
  replace tf1 := (zc (HB.block bt (by omega))).trans tf1
  replace hr5 := hr5.below HB
  replace hNw := hNw.trans (Only.below HB)
  go_wp2_with (at_builtin; refine zp zal rfl _ _ rfl base _ _ _ rfl hownU ⟨w7.heap.size + 1, 0, none⟩ 2 2 [t.cd, t.cd] [.string t.name, .slice a6 t.kids.length c6, .string t.name, .slice a7 t.kids.length c7] (fp6 ++ fp7) rfl rfl ?rd ?k ?cells ?na ?bytes ?len ?base ?next)
  case rd => simpa using (Tm.rdvs hnm hrn6).app (Tm.rdvs hnm hrn7)
  case k => simp [Tm.cd_len]
  case cells => have h := zn (w7.alloc (.cells #[.string t.name, .slice a7 t.kids.length c7] 29)) [.string t.name, .slice a6 t.kids.length c6, .string t.name, .slice a7 t.kids.length c7] 29; rw [World.size_alloc] at h; exact h
  case na => exact hown.away (Nat.le_refl _) hfnU
  case bytes => omega
  case len => omega
  case base => omega
  case next =>
   intro v8 w8 hown8 hg hv8 hs8
   obtain ⟨a8, c8, hv8e, hk8, hm8⟩ := hown8.form
   obtain ⟨⟨c1, cf1, f0, f1, d0, d1, c0⟩, k1, k2, k3, k4, k5, k6, k7, k8⟩ := zcU (R := w.heap.size + 1) (bt := bt) (mid := w5.heap.size) hg (by rw [hsU]; exact hv8) hs8 hownU hown8 hfoU hfm (by omega) hfnU (by omega) hnfo hnow (by rw [hsU]; omega) hr5 (by omega) (by omega) hNw (by omega) (by omega) (by omega) (by rw [hsU]; omega) (by omega) t0 t1 tf1 q0 q1 qf0 qf1
   have hl8 : (t.kids.map Tm.cd ++ [t.cd, t.cd]).length = t.kids.length + 2 := by simp
   rw [hl8] at hv8e
   subst hv8e
   clear hg hv8 hs8 hown8 t0 t1 tf1 q0 q1 qf0 qf1 hownU hfoU hfnU
   obtain ⟨z0, z1⟩ := zT (.string t.name) (.slice a8 (t.kids.length + 2) c8) k7 k8
   have hsn : Tm.sizes [t, t] = 2 * t.size := by simp [Tm.sizes]; try omega
   go_wp2_with fail
   exact bodyPost_ret (v := .agg #[.string t.name, .slice a8 (t.kids.length + 2) c8]) (by simp [results, Tryz.results103, go_sem, z0, z1]) rfl (zaZ (t := .mk t.name (t.kids ++ [t, t])) (by simp only [Tm.size, Tm.sizes_append, hsn]; omega) hnm (by simpa [Tm.kids, zeu] using k1) k2 (by omega) (by omega) k3 (by omega) k4 (by omega))
 obtain ⟨z0, z1⟩ := zT (.string t.name) (.slice ka t.kids.length kc) q0 q1
 go_wp2_with fail
 exact bodyPost_ret (v := .agg #[.string t.name, .slice ka t.kids.length kc]) (by simp [results, Tryz.results103, go_sem, z0, z1]) rfl (zaZ (by omega) hnm hown hfo (by omega) (by omega) hr5 (by omega) hNw (by omega))
/-- Block b holds vs, and may be written. -/
def Box (vs : List Value) (b : Nat) (w : World) : Prop := b < w.heap.size ∧ (∀ j u, vs[j]? = some u → w.cell? ⟨b, j, none⟩ = some u) ∧ ∀ j, w.frozen? ⟨b, j, none⟩ = false
theorem Box.new (w : World) (vs : List Value) (T : TypeId) : Box vs w.heap.size (w.alloc (.cells vs.toArray T)) := ⟨by simp, fun j u hu => zg w vs T j u hu, fun j => zJ _ _ _ _⟩
theorem Box.below {w w' : World} {b : Nat} {vs : List Value} (h : Box vs b w) (hb : Below w.heap.size w w') : Box vs b w' :=
 ⟨zep h.1 hb.size, fun j u hu => za (h.2.1 j u hu) hb, fun j => (zc (hb.block b h.1)).trans (h.2.2 j)⟩
theorem Box.alloc {w : World} {b : Nat} {vs : List Value} (h : Box vs b w) (o : Obj) : Box vs b (w.alloc o) := h.below (zb w o)
theorem Box.drew {w : World} {b : Nat} {vs : List Value} (h : Box vs b w) : Box vs b w.drew := h
theorem Box.only {w w' : World} {rb b : Nat} {vs : List Value} (h : Box vs b w) (ho : Only [rb] w w') (hn : b ≠ rb) : Box vs b w' :=
 ⟨zep h.1 ho.size, fun j u hu => ho.cellk (h.2.1 j u hu) hn, fun j => ho.free (h.2.2 j) h.1 hn⟩
theorem Box.put {u : World} {b : Nat} {vs : List Value} (h : Box vs b u) {k : Nat} (hk : k < vs.length) (v : Value) : Box (vs.set k v) b (u.setCell ⟨b, k, none⟩ v) := by
 obtain ⟨h2, h3, h4⟩ := h
 refine ⟨by simpa [World.setCell] using h2, fun j x hx => ?_, fun j => by simp [go_sem, h4 j]⟩
 by_cases e : j = k
 ·subst e
  rw [List.getElem?_set_self hk] at hx
  obtain rfl := Option.some.inj hx
  exact World.cell?_setCell_same u ⟨b, j, none⟩ v (h3 j _ (List.getElem?_eq_getElem hk))
 ·rw [List.getElem?_set_ne (fun h => e h.symm)] at hx
  exact (World.cell?_setCell_other _ _ _ _ (by intro h; simp only [Addr.mk.injEq] at h; omega)).trans (h3 j x hx)
theorem Box.sets_other {u : World} {lb b : Nat} {vs : List Value} (h : Box vs lb u) (hne : lb < b ∨ b < lb) (ups : List (Nat × Value)) : Box vs lb (zA b ups u) := by
 have hL := Loc.sets (b := b) (lo := b) (hi := b + 1) (Nat.le_refl _) (by omega) ups (Loc.refl _ _ u)
 have hk := hL.block lb h.1 (by omega)
 exact ⟨zep h.1 hL.size, fun j x hx => zl hk (h.2.1 j x hx), fun j => zah hk (h.2.2 j)⟩
/-- The values with their places. -/
def ze : Nat → List Value → List (Nat × Value)
 | _, [] => []
 | k, v :: r => (k, v) :: ze (k + 1) r
theorem Box.puts_from : ∀ (vs done old : List Value) {u : World} {b : Nat}, old.length = vs.length → Box (done ++ old) b u → Box (done ++ vs) b (zA b (ze done.length vs) u)
 | [], done, old, u, b, hl, h => by
  obtain rfl : old = [] := List.eq_nil_of_length_eq_zero hl
  exact h
 | v :: r, done, [], u, b, hl, h => by simp at hl
 | v :: r, done, o :: old, u, b, hl, h => by
  have h1 := h.put (k := done.length) (by simp) v
  rw [List.set_append_right _ _ (Nat.le_refl _), Nat.sub_self, zek] at h1
  have h2 := Box.puts_from r (done ++ [v]) old (by simpa using hl) (by simpa using h1)
  simpa [zA, ze] using h2
theorem Box.puts {u : World} {b : Nat} {old : List Value} (vs : List Value) (h : Box old b u) (hl : old.length = vs.length) : Box vs b (zA b (ze 0 vs) u) := by
 have h1 := Box.puts_from vs [] old hl (by simpa using h)
 simpa using h1
theorem zr {w : World} {B b : Nat} (hb : B ≤ b) : ∀ (ups : List (Nat × Value)) {u : World}, Below B w u → Below B w (zA b ups u)
 | [], _, h => h
 | p :: r, _, h => zr hb r (h.setCell hb _)
/-- All but the blocks A and B as it was. -/
def Same2 (A B : Nat) (w w' : World) : Prop := ∀ b, b < w.heap.size → b ≠ A → b ≠ B → w'.heap[b]? = w.heap[b]?
theorem Same2.refl (A B : Nat) (w : World) : Same2 A B w w := fun _ _ _ _ => rfl
theorem Same2.sets {A B b : Nat} {w : World} (hb : b = A ∨ b = B) : ∀ (ups : List (Nat × Value)) {u : World}, Same2 A B w u → Same2 A B w (zA b ups u)
 | [], _, h => h
 | p :: r, u, h => Same2.sets hb r (fun q h1 h2 h3 => (Below.heap_setCell u _ _ q (fun e : q = b => by rcases hb with hb | hb <;> omega)).trans (h q h1 h2 h3))
theorem Same2.trans {A B : Nat} {w w1 w2 : World} (h : Same2 A B w w1) (h' : Same2 A B w1 w2) (hs : w.heap.size ≤ w1.heap.size) : Same2 A B w w2 := fun b h1 h2 h3 => (h' b (zep h1 hs) h2 h3).trans (h b h1 h2 h3)
theorem Rd.same2 {A B : Nat} {w w' : World} {d : CD} {v : Value} {f : List Nat} (h : Rd w d v f) (hs : Same2 A B w w') (hf : ∀ b ∈ f, b ≠ A ∧ b ≠ B) : Rd w' d v f := h.same d (fun b hb => hs b (h.lt d b hb) (hf b hb).1 (hf b hb).2)
theorem RdVs.same2 {A B : Nat} {w w' : World} {d : List CD} {v : List Value} {f : List Nat} (h : RdVs w d v f) (hs : Same2 A B w w') (hf : ∀ b ∈ f, b ≠ A ∧ b ≠ B) : RdVs w' d v f := h.same d (fun b hb => hs b (h.lt d b hb) (hf b hb).1 (hf b hb).2)
theorem Box.grown9 {u u' : World} {b : Nat} {vs : List Value} {row : Option Nat} (h : Box vs b u) (hg : u.grownBy u' row) (hr : ∀ q, row = some q → q ≠ b) : Box vs b u' := by
 have hn : row ≠ some b := fun e => hr b e rfl
 exact ⟨zep h.1 hg.size, fun j x hx => zo hg (h.2.1 j x hx) hn, fun j => zao hg h.1 (h.2.2 j) hn⟩
end Go.Proofs.YtlefdhhnlbpbkaaGreat
end
