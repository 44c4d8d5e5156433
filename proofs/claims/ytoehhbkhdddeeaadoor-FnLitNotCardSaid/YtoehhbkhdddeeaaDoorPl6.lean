/- Parts of the proof: Rdr2. -/
import Derived.Test.YtoehhbkhdddeeaaDoorPl5
section
namespace Go.Proofs.YtoehhbkhdddeeaaDoor
open Go Go.RowKit
set_option linter.unusedVariables false
set_option linter.unusedSimpArgs false
set_option maxRecDepth 100000
set_option maxHeartbeats 16000000
theorem Only.cell {w w' : World} {rb b i : Nat} (h : Only [rb] w w') (hb : b < w.heap.size) (hne : b ≠ rb) : w'.cell? ⟨b, i, none⟩ = w.cell? ⟨b, i, none⟩ := World.cell?_of_block (h.block b hb (by simpa using hne))
theorem Only.keep {w w' : World} {rb b i : Nat} {u : Value} (h : Only [rb] w w') (hc : w.cell? ⟨b, i, none⟩ = some u) (hb : b < w.heap.size) (hne : b ≠ rb) : w'.cell? ⟨b, i, none⟩ = some u := (h.cell hb hne).trans hc
theorem Only.sameOn {w w' : World} {rb : Nat} {fp : List Nat} (h : Only [rb] w w') (hl : ∀ b ∈ fp, b < w.heap.size) (hn : rb ∉ fp) : SameOn fp w w' := h.same hl (fun b hb hm => hn (by rw [List.mem_singleton.1 hm] at hb; exact hb))
theorem Rd.only {w w' : World} {d : CD} {v : Value} {fp : List Nat} {rb : Nat} (h : Rd w d v fp) (ho : Only [rb] w w') (hn : rb ∉ fp) : Rd w' d v fp := h.same d (ho.sameOn (h.lt d) hn)
theorem RdVs.only {w w' : World} {d : List CD} {v : List Value} {fp : List Nat} {rb : Nat} (h : RdVs w d v fp) (ho : Only [rb] w w') (hn : rb ∉ fp) : RdVs w' d v fp := h.same d (ho.sameOn (h.lt d) hn)
theorem Fresh.only {w w' : World} {lo rb : Nat} {fp : List Nat} (h : Fresh lo w fp) (ho : Only [rb] w w') (hn : rb < lo) : Fresh lo w' fp := h.same (ho.sameOn h.lt (fun hm => by have := (h.2 _ hm).1; omega))
theorem Own.only {w w' : World} {base e k rb : Nat} {v : Value} {es : List (List CD)} {fp : List Nat} (h : Own w base e k v es fp) (ho : Only [rb] w w') (hb : rb < base) (hn : rb ∉ fp) : Own w' base e k v es fp :=
 h.same (ho.sameOn h.lt hn) (fun b hv => ho.block b (h.block hv).2 (by have := (h.block hv).1; simp; omega))
theorem Only.alloc {w w' : World} {rb : Nat} (h : Only [rb] w w') (o : Obj) : Only [rb] w (w'.alloc o) :=
 h.trans (Only.below (zc w' o))
theorem Rdr.same {w w' : World} {rb p : Nat} (h : Rdr w rb p) (hs : ∀ b, b ≤ rb → w'.heap[b]? = w.heap[b]?) : Rdr w' rb p := by
 obtain ⟨a, n, cap, q, T, h1, h2, h3, h4⟩ := h
 refine ⟨a, n, cap, q, T, h1, h2, (hs rb (Nat.le_refl _)).trans h3, ?_⟩
 rcases h4 with h4 | ⟨b, off, r1, r2, r4⟩
 ·exact .inl h4
 ·refine .inr ⟨b, off, r1, r2, fun i hi => ?_⟩
  obtain ⟨u, hu, hc⟩ := r4 i hi
  exact ⟨u, hu, (World.cell?_of_block (w := w) (hs b (by omega))).trans hc⟩
theorem Rdr.lt {w : World} {rb p : Nat} (h : Rdr w rb p) : rb < w.heap.size := by
 obtain ⟨a, n, cap, q', T, h1, h2, h3, h4⟩ := h; exact (Array.getElem?_eq_some_iff.1 h3).1
theorem Rdr.below {w w' : World} {rb p : Nat} (h : Rdr w rb p) (hb : Below w.heap.size w w') : Rdr w' rb p := h.same (fun b hl => hb.block b (by have := h.lt; omega))
theorem Rdr.alloc {w : World} {rb p : Nat} (h : Rdr w rb p) (o : Obj) : Rdr (w.alloc o) rb p := h.below (zc w o)
theorem Rdr.mono {w : World} {rb p q : Nat} (h : Rdr w rb p) (hp : p ≤ q) : Rdr w rb q := by
 obtain ⟨a, n, cap, q', T, h1, h2⟩ := h; exact ⟨a, n, cap, q', T, by omega, h2⟩
/-- What an append leaves of an older frame. -/
theorem Only.grown {a w w' : World} {rb : Nat} {r : Option Nat} (h : Only [rb] a w) (hg : w.grownBy w' r) (hr : ∀ b, r = some b → a.heap.size ≤ b) : Only [rb] a w' :=
 ⟨hg.os.trans h.os, hg.tape.trans h.tape, hg.output.trans h.output, Nat.le_trans h.size hg.size, fun b hb hn => (hg.block b (zcc hb h.size) (fun e => by have := hr b e.symm; omega)).trans (h.block b hb hn)⟩
theorem Rdr.grown {w w' : World} {rb p : Nat} {r : Option Nat} (h : Rdr w rb p) (hg : w.grownBy w' r) (hr : ∀ b, r = some b → rb < b) : Rdr w' rb p :=
 h.same (fun b hb => hg.block b (by have := h.lt; omega) (fun e => by have := hr b e.symm; omega))
theorem num_any (xs : List Int) (rb p lb : Nat) (w : World) (hp : p ≤ 1000000000) (h0 : 1 ≤ xs.length) (h1 : xs.length ≤ 1000) (hne : lb ≠ rb) (hlb : lb < w.heap.size)
  (hc : ∀ i (h : i < xs.length), w.cell? ⟨lb, i, none⟩ = some (.int .i64 xs[i])) (h : Rdr w rb p) :
  Calls Tryd.prog 68 #[.pointer (some ⟨rb, 0, none⟩), .slice (some ⟨lb, 0, none⟩) xs.length xs.length] w fun e w' => (∃ x, x ∈ xs ∧ e = .returned (.int .i64 x)) ∧ Rdr w' rb (p + 1) ∧ Only [rb] w w' := by
 go_enter Tryd.func68, Tryd.ntmps68
 go_wp2_with fail
 refine (zS rb p xs.length w hp (by omega) (by omega) h).mono ?_
 rintro e w1 ⟨⟨m, hm, rfl⟩, hr, ho⟩
 have hm' : m < xs.length := by omega
 have c := ho.keep (hc m hm') hlb hne
 have HX := Lib.hid (zcf hm')
 go_wp2_with fail
 go_ret
 exact ⟨⟨xs[m], HX.out, rfl⟩, hr, ho⟩
theorem of_any (xs : List ByteArray) (rb p lb : Nat) (w : World) (hp : p ≤ 1000000000) (h0 : 1 ≤ xs.length) (h1 : xs.length ≤ 1000) (hne : lb ≠ rb) (hlb : lb < w.heap.size)
  (hc : ∀ i (h : i < xs.length), w.cell? ⟨lb, i, none⟩ = some (.string xs[i])) (h : Rdr w rb p) :
  Calls Tryd.prog 72 #[.pointer (some ⟨rb, 0, none⟩), .slice (some ⟨lb, 0, none⟩) xs.length xs.length] w fun e w' => (∃ x, x ∈ xs ∧ e = .returned (.string x)) ∧ Rdr w' rb (p + 1) ∧ Only [rb] w w' := by
 go_enter Tryd.func72, Tryd.ntmps72
 go_wp2_with fail
 refine (zS rb p xs.length w hp (by omega) (by omega) h).mono ?_
 rintro e w1 ⟨⟨m, hm, rfl⟩, hr, ho⟩
 have hm' : m < xs.length := by omega
 have c := ho.keep (hc m hm') hlb hne
 have HX := Lib.hid (zcf hm')
 go_wp2_with fail
 go_ret
 exact ⟨⟨xs[m], HX.out, rfl⟩, hr, ho⟩
/-- Bytes that came in. -/
def Byts (w : World) (v : Value) : Prop := ∃ a n cap, v = .slice a n cap ∧ n ≤ cap ∧ cap ≤ 9223372036854775807 ∧ (n = 0 ∨ ∃ b off, a = some ⟨b, off, none⟩ ∧ b < w.heap.size ∧ ∀ i : Nat, i < n → ∃ u : Nat, u ≤ 255 ∧ w.cell? ⟨b, off + i, none⟩ = some (.int .u8 u))
theorem Byts.below {w w' : World} {v : Value} (h : Byts w v) (hb : Below w.heap.size w w') : Byts w' v := by
 obtain ⟨a, n, cap, h1, h2, h3, h4⟩ := h
 refine ⟨a, n, cap, h1, h2, h3, ?_⟩
 rcases h4 with h4 | ⟨b, off, r1, r3, r4⟩
 ·exact .inl h4
 ·refine .inr ⟨b, off, r1, by have := hb.size; omega, fun i hi => ?_⟩
  obtain ⟨u, hu, hc⟩ := r4 i hi
  exact ⟨u, hu, (World.cell?_of_block (w := w) (hb.block b r3)).trans hc⟩
theorem rdr_new {w : World} {a : Option Addr} {n cap T : Nat} (hn : n ≤ 2000) (h : n = 0 ∨ ∃ b off, a = some ⟨b, off, none⟩ ∧ b < w.heap.size ∧ ∀ i : Nat, i < n → ∃ u : Nat, u ≤ 255 ∧ w.cell? ⟨b, off + i, none⟩ = some (.int .u8 u)) :
  Rdr (w.alloc (.cells #[.slice a n cap, .int .i64 0] T)) w.heap.size 0 := by
 refine ⟨a, n, cap, 0, T, Nat.le_refl _, hn, by show (w.heap.push _)[w.heap.size]? = _; simp, ?_⟩
 rcases h with h | ⟨b, off, r1, r3, r4⟩
 ·exact .inl h
 ·refine .inr ⟨b, off, r1, r3, fun i hi => ?_⟩
  obtain ⟨u, hu, hc⟩ := r4 i hi
  exact ⟨u, hu, (World.cell?_of_block (w := w) ((zc w _).block b r3)).trans hc⟩
theorem zbD (v : Value) (w : World) (h : Byts w v) :
  Calls Tryd.prog 34 #[v] w fun e w' => e = .returned (.pointer (some ⟨w.heap.size, 0, none⟩)) ∧ Rdr w' w.heap.size 0 ∧ Below w.heap.size w w' := by
 obtain ⟨a, n, cap, rfl, h1, h2, h3⟩ := h
 by_cases hn : n ≤ 2000
 ·have dn : decide ((2000 : Int) < (n : Int)) = false := by simp; omega
  go_enter Tryd.func34, Tryd.ntmps34
  go_wp2_with fail
  go_ret
  exact ⟨rfl, rdr_new hn h3, zc _ _⟩
 ·have dn : decide ((2000 : Int) < (n : Int)) = true := by simp; omega
  obtain ⟨b, off, rfl, r3, r4⟩ : ∃ b off, a = some ⟨b, off, none⟩ ∧ b < w.heap.size ∧ ∀ i : Nat, i < n → ∃ u : Nat, u ≤ 255 ∧ w.cell? ⟨b, off + i, none⟩ = some (.int .u8 u) := by
   rcases h3 with h3 | h3
   ·omega
   ·exact h3
  go_enter Tryd.func34, Tryd.ntmps34
  go_wp2_with fail
  go_ret
  exact ⟨rfl, rdr_new (Nat.le_refl _) (.inr ⟨b, off, rfl, r3, fun i hi => r4 i (by omega)⟩), zc _ _⟩
end Go.Proofs.YtoehhbkhdddeeaaDoor
end
