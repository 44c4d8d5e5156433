/- Parts of the proof: Rdr2 Rdr3 Rdr4. -/
import Derived.Test.YticlgpkjdmcnaaaPa8
import Derived.Test.YticlgpkjdmcnaaaPa4
import Derived.Test.YticlgpkjdmcnaaaPa9
import Derived.Deep.RegionLaw
import Derived.Test.YticlgpkjdmcnaaaPa6
import Derived.Test.YticlgpkjdmcnaaaPa11
section
namespace Go.Proofs.Yticlgpkjdmcnaaa
open Go Go.RowKit
set_option linter.unusedVariables false
set_option linter.unusedSimpArgs false
set_option maxRecDepth 100000
set_option maxHeartbeats 16000000
theorem Only.cell {w w' : World} {rb b i : Nat} (h : Only [rb] w w') (hb : b < w.heap.size) (hne : b ≠ rb) : w'.cell? ⟨b, i, none⟩ = w.cell? ⟨b, i, none⟩ := World.cell?_of_block (h.block b hb (by simpa using hne))
theorem Only.keep {w w' : World} {rb b i : Nat} {u : Value} (h : Only [rb] w w') (hc : w.cell? ⟨b, i, none⟩ = some u) (hb : b < w.heap.size) (hne : b ≠ rb) : w'.cell? ⟨b, i, none⟩ = some u := (h.cell hb hne).trans hc
theorem Only.sameOn {w w' : World} {rb : Nat} {fp : List Nat} (h : Only [rb] w w') (hl : ∀ b ∈ fp, b < w.heap.size) (hn : rb ∉ fp) : SameOn fp w w' := h.same hl (fun b hb hm => hn (by rw [List.mem_singleton.1 hm] at hb; exact hb))
theorem Rd.only {w w' : World} {d : CD} {v : Value} {fp : List Nat} {rb : Nat} (h : Rd w d v fp) (ho : Only [rb] w w') (hn : rb ∉ fp) : Rd w' d v fp := h.same d (ho.sameOn (h.lt d) hn)
theorem RdVs.only {w w' : World} {d : List CD} {v : List Value} {fp : List Nat} {rb : Nat} (h : RdVs w d v fp) (ho : Only [rb] w w') (hn : rb ∉ fp) : RdVs w' d v fp := h.same d (ho.sameOn (h.lt d) hn)
theorem Fresh.only {w w' : World} {lo rb : Nat} {fp : List Nat} (h : Fresh lo w fp) (ho : Only [rb] w w') (hn : rb < lo) : Fresh lo w' fp := h.same (ho.sameOn h.lt (fun hm => by have := (h.2 _ hm).1; omega))
theorem Own.only {w w' : World} {base e k rb : Nat} {v : Value} {es : List (List CD)} {fp : List Nat} (h : Own w base e k v es fp) (ho : Only [rb] w w') (hb : rb < base) (hn : rb ∉ fp) : Own w' base e k v es fp :=
 h.same (ho.sameOn h.lt hn) (fun b hv => ho.block b (h.block hv).2 (by have := (h.block hv).1; simp; omega))
theorem Only.alloc {w w' : World} {rb : Nat} (h : Only [rb] w w') (o : Obj) : Only [rb] w (w'.alloc o) :=
 h.trans (Only.below (zb w' o))
theorem Rdr.same {w w' : World} {rb p : Nat} (h : Rdr w rb p) (hs : ∀ b, b ≤ rb → w'.heap[b]? = w.heap[b]?) : Rdr w' rb p := by
 obtain ⟨a, n, cap, q, T, h1, h2, h3, h4⟩ := h
 refine ⟨a, n, cap, q, T, h1, h2, (hs rb (Nat.le_refl _)).trans h3, ?_⟩
 rcases h4 with h4 | ⟨b, off, r1, r2, r4⟩
 ·exact .inl h4
 ·refine .inr ⟨b, off, r1, r2, fun i hi => ?_⟩
  obtain ⟨u, hu, hc⟩ := r4 i hi
  exact ⟨u, hu, (World.cell?_of_block (w := w) (hs b (by omega))).trans hc⟩
theorem Rdr.lt {w : World} {rb p : Nat} (h : Rdr w rb p) : rb < w.heap.size := by
 obtain ⟨a, n, cap, q', T, h1, h2, h3, h4⟩ := h; exact (Array.getElem?_eq_some_iff.1 h3).1
theorem Rdr.below {w w' : World} {rb p : Nat} (h : Rdr w rb p) (hb : Below w.heap.size w w') : Rdr w' rb p := h.same (fun b hl => hb.block b (by have := h.lt; omega))
theorem Rdr.alloc {w : World} {rb p : Nat} (h : Rdr w rb p) (o : Obj) : Rdr (w.alloc o) rb p := h.below (zb w o)
theorem Rdr.mono {w : World} {rb p q : Nat} (h : Rdr w rb p) (hp : p ≤ q) : Rdr w rb q := by
 obtain ⟨a, n, cap, q', T, h1, h2⟩ := h; exact ⟨a, n, cap, q', T, by omega, h2⟩
/-- What an append leaves of an older frame. -/
theorem Only.grown {a w w' : World} {rb : Nat} {r : Option Nat} (h : Only [rb] a w) (hg : w.grownBy w' r) (hr : ∀ b, r = some b → a.heap.size ≤ b) : Only [rb] a w' :=
 ⟨hg.os.trans h.os, hg.tape.trans h.tape, hg.output.trans h.output, Nat.le_trans h.size hg.size, fun b hb hn => (hg.block b (zd3 hb h.size) (fun e => by have := hr b e.symm; omega)).trans (h.block b hb hn)⟩
theorem Rdr.grown {w w' : World} {rb p : Nat} {r : Option Nat} (h : Rdr w rb p) (hg : w.grownBy w' r) (hr : ∀ b, r = some b → rb < b) : Rdr w' rb p :=
 h.same (fun b hb => hg.block b (by have := h.lt; omega) (fun e => by have := hr b e.symm; omega))
theorem num_any (xs : List Int) (rb p lb : Nat) (w : World) (hp : p ≤ 1000000000) (h0 : 1 ≤ xs.length) (h1 : xs.length ≤ 1000) (hne : lb ≠ rb) (hlb : lb < w.heap.size)
  (hc : ∀ i (h : i < xs.length), w.cell? ⟨lb, i, none⟩ = some (.int .i64 xs[i])) (h : Rdr w rb p) :
  Calls Try.prog 24 #[.pointer (some ⟨rb, 0, none⟩), .slice (some ⟨lb, 0, none⟩) xs.length xs.length] w fun e w' => (∃ x, x ∈ xs ∧ e = .returned (.int .i64 x)) ∧ Rdr w' rb (p + 1) ∧ Only [rb] w w' := by
 go_enter Try.func24, Try.ntmps24
 go_wp2_with fail
 refine (zX rb p xs.length w hp (by omega) (by omega) h).mono ?_
 rintro e w1 ⟨⟨m, hm, rfl⟩, hr, ho⟩
 have hm' : m < xs.length := by omega
 have c := ho.keep (hc m hm') hlb hne
 have HX := Lib.hid (zd6 hm')
 go_wp2_with fail
 go_ret
 exact ⟨⟨xs[m], HX.out, rfl⟩, hr, ho⟩
theorem of_any (xs : List ByteArray) (rb p lb : Nat) (w : World) (hp : p ≤ 1000000000) (h0 : 1 ≤ xs.length) (h1 : xs.length ≤ 1000) (hne : lb ≠ rb) (hlb : lb < w.heap.size)
  (hc : ∀ i (h : i < xs.length), w.cell? ⟨lb, i, none⟩ = some (.string xs[i])) (h : Rdr w rb p) :
  Calls Try.prog 47 #[.pointer (some ⟨rb, 0, none⟩), .slice (some ⟨lb, 0, none⟩) xs.length xs.length] w fun e w' => (∃ x, x ∈ xs ∧ e = .returned (.string x)) ∧ Rdr w' rb (p + 1) ∧ Only [rb] w w' := by
 go_enter Try.func47, Try.ntmps47
 go_wp2_with fail
 refine (zX rb p xs.length w hp (by omega) (by omega) h).mono ?_
 rintro e w1 ⟨⟨m, hm, rfl⟩, hr, ho⟩
 have hm' : m < xs.length := by omega
 have c := ho.keep (hc m hm') hlb hne
 have HX := Lib.hid (zd6 hm')
 go_wp2_with fail
 go_ret
 exact ⟨⟨xs[m], HX.out, rfl⟩, hr, ho⟩
/-- Bytes that came in. -/
def Byts (w : World) (v : Value) : Prop := ∃ a n cap, v = .slice a n cap ∧ n ≤ cap ∧ cap ≤ 9223372036854775807 ∧ (n = 0 ∨ ∃ b off, a = some ⟨b, off, none⟩ ∧ b < w.heap.size ∧ ∀ i : Nat, i < n → ∃ u : Nat, u ≤ 255 ∧ w.cell? ⟨b, off + i, none⟩ = some (.int .u8 u))
theorem Byts.below {w w' : World} {v : Value} (h : Byts w v) (hb : Below w.heap.size w w') : Byts w' v := by
 obtain ⟨a, n, cap, h1, h2, h3, h4⟩ := h
 refine ⟨a, n, cap, h1, h2, h3, ?_⟩
 rcases h4 with h4 | ⟨b, off, r1, r3, r4⟩
 ·exact .inl h4
 ·refine .inr ⟨b, off, r1, by have := hb.size; omega, fun i hi => ?_⟩
  obtain ⟨u, hu, hc⟩ := r4 i hi
  exact ⟨u, hu, (World.cell?_of_block (w := w) (hb.block b r3)).trans hc⟩
theorem rdr_new {w : World} {a : Option Addr} {n cap T : Nat} (hn : n ≤ 2000) (h : n = 0 ∨ ∃ b off, a = some ⟨b, off, none⟩ ∧ b < w.heap.size ∧ ∀ i : Nat, i < n → ∃ u : Nat, u ≤ 255 ∧ w.cell? ⟨b, off + i, none⟩ = some (.int .u8 u)) :
  Rdr (w.alloc (.cells #[.slice a n cap, .int .i64 0] T)) w.heap.size 0 := by
 refine ⟨a, n, cap, 0, T, Nat.le_refl _, hn, by show (w.heap.push _)[w.heap.size]? = _; simp, ?_⟩
 rcases h with h | ⟨b, off, r1, r3, r4⟩
 ·exact .inl h
 ·refine .inr ⟨b, off, r1, r3, fun i hi => ?_⟩
  obtain ⟨u, hu, hc⟩ := r4 i hi
  exact ⟨u, hu, (World.cell?_of_block (w := w) ((zb w _).block b r3)).trans hc⟩
theorem zcP (v : Value) (w : World) (h : Byts w v) :
  Calls Try.prog 7 #[v] w fun e w' => e = .returned (.pointer (some ⟨w.heap.size, 0, none⟩)) ∧ Rdr w' w.heap.size 0 ∧ Below w.heap.size w w' := by
 obtain ⟨a, n, cap, rfl, h1, h2, h3⟩ := h
 by_cases hn : n ≤ 2000
 ·have dn : decide ((2000 : Int) < (n : Int)) = false := by simp; omega
  go_enter Try.func7, Try.ntmps7
  go_wp2_with fail
  go_ret
  exact ⟨rfl, rdr_new hn h3, zb _ _⟩
 ·have dn : decide ((2000 : Int) < (n : Int)) = true := by simp; omega
  obtain ⟨b, off, rfl, r3, r4⟩ : ∃ b off, a = some ⟨b, off, none⟩ ∧ b < w.heap.size ∧ ∀ i : Nat, i < n → ∃ u : Nat, u ≤ 255 ∧ w.cell? ⟨b, off + i, none⟩ = some (.int .u8 u) := by
   rcases h3 with h3 | h3
   ·omega
   ·exact h3
  go_enter Try.func7, Try.ntmps7
  go_wp2_with fail
  go_ret
  exact ⟨rfl, rdr_new (Nat.le_refl _) (.inr ⟨b, off, rfl, r3, fun i hi => r4 i (by omega)⟩), zb _ _⟩
theorem zbr {w : World} {b n c k : Nat} {es : List (List CD)} {vs : List Value} {f : List Nat} (hc : ∀ j u, vs[j]? = some u → w.cell? ⟨b, j, none⟩ = some u) (h : RdVs w es.flatten vs f) (hne : es ≠ []) (hn : n = es.length) (hcap : es.length ≤ c) (hm : c ≤ 9223372036854775807) (hb : b < w.heap.size) :
  Rd w (.sl es) (.slice (some ⟨b, 0, none⟩) n c) (b :: f) := by
 simp only [Rd]
 exact ⟨_, c, by rw [hn], hcap, by simpa [maxLen] using hm, .inr ⟨hne, b, 0, f, rfl, hb, rfl, RdRows.mk (k := k) (fun j u hu => by rw [Nat.zero_add]; exact hc j u hu) h⟩⟩
theorem zdp {w : World} {α : Type} {cd : α → List CD} (a : Option Addr) : Rd w (.sl (([] : List α).map cd)) (.slice a 0 0) [] := by
 simp only [List.map_nil, Rd]; exact ⟨a, 0, rfl, by simp, by simp [maxLen], by simp⟩
/-- Words that are drawn: few, of few arguments. -/
def Sg.few (s : Sg) : Prop := s.syms.length ≤ 5 ∧ ∀ y ∈ s.syms, y.args.length ≤ 2
theorem zw (w : World) (vs : List Value) (T : Nat) (j : Nat) (u : Value) (h : vs[j]? = some u) : (w.alloc (.cells vs.toArray T)).cell? ⟨w.heap.size, j, none⟩ = some u := by
 rw [zy]; simpa using h
theorem sym0 (w : World) (nm : ByteArray) (k : Int) (h : nm.size ≤ 9223372036854775807) (hk : -9223372036854775808 ≤ k ∧ k ≤ 9223372036854775807) : RdVs w (Sy.cd ⟨nm, [], k⟩) [.string nm, .slice none 0 0, .int .i64 k] [] :=
 Sy.close (x := ⟨nm, [], k⟩) (f1 := []) (by simpa [maxLen] using h) (zdp none) hk
theorem zdq {w : World} : ∀ (l : List Int), (∀ x ∈ l, I64 x) → RdVs w (l.map zq).flatten (l.map (Value.int .i64)) []
 | [], _ => by simp only [List.map_nil, List.flatten_nil, RdVs]; exact ⟨trivial, trivial⟩
 | x :: l, h => by
  have := (RdVs.single (w := w) (d := .int x) (v := .int .i64 x) (fp := []) (by simp only [Rd]; exact ⟨trivial, h x (by simp), trivial⟩)).app (zdq l (fun y hy => h y (by simp [hy])))
  simpa [zq] using this
theorem sym1 (w : World) (nm : ByteArray) (l : List Int) (k : Int) (b : Nat) (h : nm.size ≤ 9223372036854775807) (hk : -9223372036854775808 ≤ k ∧ k ≤ 9223372036854775807) (hne : l ≠ []) (hl : l.length ≤ 1000) (ha : ∀ x ∈ l, I64 x) (hb : b < w.heap.size)
  (hc : ∀ j u, (l.map (Value.int .i64))[j]? = some u → w.cell? ⟨b, j, none⟩ = some u) : RdVs w (Sy.cd ⟨nm, l, k⟩) [.string nm, .slice (some ⟨b, 0, none⟩) l.length l.length, .int .i64 k] [b] :=
 Sy.close (x := ⟨nm, l, k⟩) (f1 := [b]) (by simpa [maxLen] using h) (zbr (k := 1) hc (zdq l ha) (by simpa using hne) (by simp) (by simp) (by omega) hb) hk
theorem Only.undrew {w w' : World} {fp : List Nat} (h : Only fp w.drew w') : Only fp w w' := ⟨h.os, h.tape, h.output, h.size, h.block⟩
theorem Only.set_new {w w' : World} {rb b i : Nat} {u : Value} (h : Only [rb] w w') (hb : w.heap.size ≤ b) : Only [rb] w (w'.setCell ⟨b, i, none⟩ u) :=
 ⟨h.os, h.tape, h.output, by simpa [World.setCell] using h.size, fun q hq hn => (Below.heap_setCell _ _ _ _ (by show q ≠ b; omega)).trans (h.block q hq hn)⟩
theorem Rdr.set {w : World} {rb p b i : Nat} {u : Value} (h : Rdr w rb p) (hb : rb < b) : Rdr (w.setCell ⟨b, i, none⟩ u) rb p := h.same (fun q hq => Below.heap_setCell _ _ _ _ (by show q ≠ b; omega))
theorem Only.free {w w' : World} {rb b i : Nat} {f : Bool} (h : Only [rb] w w') (hc : w.frozen? ⟨b, i, none⟩ = f) (hb : b < w.heap.size) (hne : b ≠ rb) : w'.frozen? ⟨b, i, none⟩ = f := zl (h.block b hb (by simpa using hne)) hc
theorem zam {wr w2 w4 : World} {o : Obj} {row : Option Nat} {b rb : Nat} (ho : Only [rb] wr w2) (hg : (w2.alloc o).grownBy w4 row) (hl : b < wr.heap.size) (hb : b ≠ rb) (hn : row ≠ some b) : w4.heap[b]? = wr.heap[b]? := by
 have h1 : b < w2.heap.size := zd3 hl ho.size
 exact ((hg.block b (by simp; omega) (fun e => hn e.symm)).trans ((zb w2 o).block b h1)).trans (ho.block b hl (by simpa using hb))
def pcap : Nat → Nat | 0 => 0 | n + 1 => 1 + 2 * pcap n
theorem Fresh.notin {lo rb : Nat} {w : World} {fp : List Nat} (h : Fresh lo w fp) (hl : rb < lo) : rb ∉ fp := fun hm => by have := (h.2 _ hm).1; omega
theorem Own.set_row {w : World} {base e k : Nat} {v : Value} {es : List (List CD)} {fp : List Nat} (h : Own w base e k v es fp) {b j : Nat} {u : Value} (hb : b < base) (hn : b ∉ fp) : Own (w.setCell ⟨b, j, none⟩ u) base e k v es fp :=
 h.same (zv (fun x hx (e : x = b) => hn (e ▸ hx))) fun x hx => Below.heap_setCell _ _ _ _ (by have := (h.block hx).1; show x ≠ b; omega)
def Sg.words (s : Sg) (so deep : Int) (k : Nat) : List Sy := (s.syms.take k).filter fun y => (y.sort == so) && (decide (1 < deep) || ((y.args.length : Int) == 0))
theorem Sg.words_yes {s : Sg} {so deep : Int} {k : Nat} (hk : k < s.syms.length) (h : ((s.syms[k].sort == so) && (decide (1 < deep) || ((s.syms[k].args.length : Int) == 0))) = true) : s.words so deep (k + 1) = s.words so deep k ++ [s.syms[k]] := by
 unfold Sg.words; rw [zd4 hk, List.filter_append, List.filter_cons, if_pos h, List.filter_nil]
theorem Sg.words_no {s : Sg} {so deep : Int} {k : Nat} (hk : k < s.syms.length) (h : ((s.syms[k].sort == so) && (decide (1 < deep) || ((s.syms[k].args.length : Int) == 0))) = false) : s.words so deep (k + 1) = s.words so deep k := by
 unfold Sg.words; rw [zd4 hk, List.filter_append, List.filter_cons, if_neg (by simp [h]), List.filter_nil, List.append_nil]
theorem Sg.words_len (s : Sg) (so deep : Int) (k : Nat) : (s.words so deep k).length ≤ s.syms.length := by
 unfold Sg.words; have h1 := List.length_filter_le (fun y : Sy => (y.sort == so) && (decide (1 < deep) || ((y.args.length : Int) == 0))) (s.syms.take k); have h2 : (s.syms.take k).length ≤ s.syms.length := by simp; omega
 omega
theorem Sg.words_mem {s : Sg} {so deep : Int} {k : Nat} {y : Sy} (h : y ∈ s.words so deep k) : y ∈ s.syms ∧ (0 < y.args.length → 1 < deep) := by
 unfold Sg.words at h
 rw [List.mem_filter] at h
 refine ⟨List.mem_of_mem_take h.1, fun h0 => ?_⟩
 have h2 := h.2
 simp only [zeb, Bool.or_eq_true, decide_eq_true_eq, beq_iff_eq] at h2
 omega
end Go.Proofs.Yticlgpkjdmcnaaa
end
