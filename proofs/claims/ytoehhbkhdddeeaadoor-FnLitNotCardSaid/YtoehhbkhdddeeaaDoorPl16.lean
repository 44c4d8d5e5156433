/- Parts of the proof: Rdr4. -/
import Derived.Deep.RegionLaw
import Derived.Test.YtoehhbkhdddeeaaDoorPl12
import Derived.Test.YtoehhbkhdddeeaaDoorPl14
import Derived.Test.YtoehhbkhdddeeaaDoorPl15
section
namespace Go.Proofs.YtoehhbkhdddeeaaDoor
open Go Go.RowKit
set_option linter.unusedVariables false
set_option linter.unusedSimpArgs false
set_option maxRecDepth 100000
set_option maxHeartbeats 16000000
theorem Only.undrew {w w' : World} {fp : List Nat} (h : Only fp w.drew w') : Only fp w w' := ⟨h.os, h.tape, h.output, h.size, h.block⟩
theorem Only.set_new {w w' : World} {rb b i : Nat} {u : Value} (h : Only [rb] w w') (hb : w.heap.size ≤ b) : Only [rb] w (w'.setCell ⟨b, i, none⟩ u) :=
 ⟨h.os, h.tape, h.output, by simpa [World.setCell] using h.size, fun q hq hn => (Below.heap_setCell _ _ _ _ (by show q ≠ b; omega)).trans (h.block q hq hn)⟩
theorem Rdr.set {w : World} {rb p b i : Nat} {u : Value} (h : Rdr w rb p) (hb : rb < b) : Rdr (w.setCell ⟨b, i, none⟩ u) rb p := h.same (fun q hq => Below.heap_setCell _ _ _ _ (by show q ≠ b; omega))
theorem Only.free {w w' : World} {rb b i : Nat} {f : Bool} (h : Only [rb] w w') (hc : w.frozen? ⟨b, i, none⟩ = f) (hb : b < w.heap.size) (hne : b ≠ rb) : w'.frozen? ⟨b, i, none⟩ = f := zO (h.block b hb (by simpa using hne)) hc
theorem zbW {wr w2 w4 : World} {o : Obj} {row : Option Nat} {b rb : Nat} (ho : Only [rb] wr w2) (hg : (w2.alloc o).grownBy w4 row) (hl : b < wr.heap.size) (hb : b ≠ rb) (hn : row ≠ some b) : w4.heap[b]? = wr.heap[b]? := by
 have h1 : b < w2.heap.size := zcc hl ho.size
 exact ((hg.block b (by simp; omega) (fun e => hn e.symm)).trans ((zc w2 o).block b h1)).trans (ho.block b hl (by simpa using hb))
def pcap : Nat → Nat | 0 => 0 | n + 1 => 1 + 2 * pcap n
theorem Fresh.notin {lo rb : Nat} {w : World} {fp : List Nat} (h : Fresh lo w fp) (hl : rb < lo) : rb ∉ fp := fun hm => by have := (h.2 _ hm).1; omega
theorem Own.set_row {w : World} {base e k : Nat} {v : Value} {es : List (List CD)} {fp : List Nat} (h : Own w base e k v es fp) {b j : Nat} {u : Value} (hb : b < base) (hn : b ∉ fp) : Own (w.setCell ⟨b, j, none⟩ u) base e k v es fp :=
 h.same (zz (fun x hx (e : x = b) => hn (e ▸ hx))) fun x hx => Below.heap_setCell _ _ _ _ (by have := (h.block hx).1; show x ≠ b; omega)
def Sg.words (s : Sg) (so deep : Int) (k : Nat) : List Sy := (s.syms.take k).filter fun y => (y.sort == so) && (decide (1 < deep) || ((y.args.length : Int) == 0))
theorem Sg.words_yes {s : Sg} {so deep : Int} {k : Nat} (hk : k < s.syms.length) (h : ((s.syms[k].sort == so) && (decide (1 < deep) || ((s.syms[k].args.length : Int) == 0))) = true) : s.words so deep (k + 1) = s.words so deep k ++ [s.syms[k]] := by
 unfold Sg.words; rw [zcd hk, List.filter_append, List.filter_cons, if_pos h, List.filter_nil]
theorem Sg.words_no {s : Sg} {so deep : Int} {k : Nat} (hk : k < s.syms.length) (h : ((s.syms[k].sort == so) && (decide (1 < deep) || ((s.syms[k].args.length : Int) == 0))) = false) : s.words so deep (k + 1) = s.words so deep k := by
 unfold Sg.words; rw [zcd hk, List.filter_append, List.filter_cons, if_neg (by simp [h]), List.filter_nil, List.append_nil]
theorem Sg.words_len (s : Sg) (so deep : Int) (k : Nat) : (s.words so deep k).length ≤ s.syms.length := by
 unfold Sg.words; have h1 := List.length_filter_le (fun y : Sy => (y.sort == so) && (decide (1 < deep) || ((y.args.length : Int) == 0))) (s.syms.take k); have h2 : (s.syms.take k).length ≤ s.syms.length := by simp; omega
 omega
theorem Sg.words_mem {s : Sg} {so deep : Int} {k : Nat} {y : Sy} (h : y ∈ s.words so deep k) : y ∈ s.syms ∧ (0 < y.args.length → 1 < deep) := by
 unfold Sg.words at h
 rw [List.mem_filter] at h
 refine ⟨List.mem_of_mem_take h.1, fun h0 => ?_⟩
 have h2 := h.2
 simp only [zck, Bool.or_eq_true, decide_eq_true_eq, beq_iff_eq] at h2
 omega
end Go.Proofs.YtoehhbkhdddeeaaDoor
end
