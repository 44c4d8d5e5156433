/- Parts of the proof: Rdr3. -/
import Derived.Test.YtoehhbkhdddeeaaDoorPl6
import Derived.Test.YtoehhbkhdddeeaaDoorPl8
import Derived.Test.YtoehhbkhdddeeaaDoorPl11
section
namespace Go.Proofs.YtoehhbkhdddeeaaDoor
open Go Go.RowKit
set_option linter.unusedVariables false
set_option linter.unusedSimpArgs false
set_option maxRecDepth 100000
set_option maxHeartbeats 16000000
theorem zax {w : World} {b n c k : Nat} {es : List (List CD)} {vs : List Value} {f : List Nat} (hc : ∀ j u, vs[j]? = some u → w.cell? ⟨b, j, none⟩ = some u) (h : RdVs w es.flatten vs f) (hne : es ≠ []) (hn : n = es.length) (hcap : es.length ≤ c) (hm : c ≤ 9223372036854775807) (hb : b < w.heap.size) :
  Rd w (.sl es) (.slice (some ⟨b, 0, none⟩) n c) (b :: f) := by
 simp only [Rd]
 exact ⟨_, c, by rw [hn], hcap, by simpa [maxLen] using hm, .inr ⟨hne, b, 0, f, rfl, hb, rfl, RdRows.mk (k := k) (fun j u hu => by rw [Nat.zero_add]; exact hc j u hu) h⟩⟩
theorem zbO {w : World} {α : Type} {cd : α → List CD} (a : Option Addr) : Rd w (.sl (([] : List α).map cd)) (.slice a 0 0) [] := by
 simp only [List.map_nil, Rd]; exact ⟨a, 0, rfl, by simp, by simp [maxLen], by simp⟩
/-- Words that are drawn: few, of few arguments. -/
def Sg.few (s : Sg) : Prop := s.syms.length ≤ 5 ∧ ∀ y ∈ s.syms, y.args.length ≤ 2
theorem zm (w : World) (vs : List Value) (T : Nat) (j : Nat) (u : Value) (h : vs[j]? = some u) : (w.alloc (.cells vs.toArray T)).cell? ⟨w.heap.size, j, none⟩ = some u := by
 rw [zJ]; simpa using h
theorem sym0 (w : World) (nm : ByteArray) (k : Int) (h : nm.size ≤ 9223372036854775807) (hk : -9223372036854775808 ≤ k ∧ k ≤ 9223372036854775807) : RdVs w (Sy.cd ⟨nm, [], k⟩) [.string nm, .slice none 0 0, .int .i64 k] [] :=
 Sy.close (x := ⟨nm, [], k⟩) (f1 := []) (by simpa [maxLen] using h) (zbO none) hk
theorem zbP {w : World} : ∀ (l : List Int), (∀ x ∈ l, I64 x) → RdVs w (l.map zg).flatten (l.map (Value.int .i64)) []
 | [], _ => by simp only [List.map_nil, List.flatten_nil, RdVs]; exact ⟨trivial, trivial⟩
 | x :: l, h => by
  have := (RdVs.single (w := w) (d := .int x) (v := .int .i64 x) (fp := []) (by simp only [Rd]; exact ⟨trivial, h x (by simp), trivial⟩)).app (zbP l (fun y hy => h y (by simp [hy])))
  simpa [zg] using this
theorem sym1 (w : World) (nm : ByteArray) (l : List Int) (k : Int) (b : Nat) (h : nm.size ≤ 9223372036854775807) (hk : -9223372036854775808 ≤ k ∧ k ≤ 9223372036854775807) (hne : l ≠ []) (hl : l.length ≤ 1000) (ha : ∀ x ∈ l, I64 x) (hb : b < w.heap.size)
  (hc : ∀ j u, (l.map (Value.int .i64))[j]? = some u → w.cell? ⟨b, j, none⟩ = some u) : RdVs w (Sy.cd ⟨nm, l, k⟩) [.string nm, .slice (some ⟨b, 0, none⟩) l.length l.length, .int .i64 k] [b] :=
 Sy.close (x := ⟨nm, l, k⟩) (f1 := [b]) (by simpa [maxLen] using h) (zax (k := 1) hc (zbP l ha) (by simpa using hne) (by simp) (by simp) (by omega) hb) hk
end Go.Proofs.YtoehhbkhdddeeaaDoor
end
