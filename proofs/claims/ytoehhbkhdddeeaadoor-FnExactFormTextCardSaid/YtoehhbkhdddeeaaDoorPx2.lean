/- Parts of the proof: Open. -/
import Derived.ChangeArms
import Derived.DataReads
import Derived.ProofKit
import Derived.OpenShut
import Derived.Test.YtoehhbkhdddeeaaDoorPx1
namespace Go.Proofs.YtoehhbkhdddeeaaDoor
open Go Go.RowKit Go.ChangeShapes Go.WideShapes
set_option linter.unusedVariables false
set_option linter.unusedSimpArgs false
theorem list1 {α : Type} {a b : α} (h : [a] = [b]) : a = b := by simpa using h
section
variable {H : Type} {enc : TypeId × Value → H} {P : Program} {w : World} {base : Nat} {spare : Nat → Bool} {held : Bool}
theorem i64_of_wf {n : Int} (h : (Lit.int .i64 n).wf = true) : I64 n := by
 have := bounds_i64 h; exact this
theorem zbK {t fuel : Nat} {cs : List Value} {x : DataW H × List MemPlace} (ht : P.underlying t = some (.int .i64)) (h : DataW.trod enc P w base spare held fuel t cs = some x) : ∃ n, RdVs w [.int n] cs [] := by
 obtain ⟨n, rfl, _, hw⟩ := DataW.trod_int ht h
 exact ⟨n, RdVs.single (by simp only [Rd]; exact ⟨trivial, i64_of_wf hw, trivial⟩)⟩
theorem rd_bool {t fuel : Nat} {cs : List Value} {x : DataW H × List MemPlace} (ht : P.underlying t = some .bool) (h : DataW.trod enc P w base spare held fuel t cs = some x) : ∃ b, RdVs w [.bool b] cs [] := by
 obtain ⟨b, rfl, _⟩ := DataW.trod_bool ht h
 exact ⟨b, RdVs.single (by simp only [Rd]; exact ⟨trivial, trivial⟩)⟩
theorem rd_str {t fuel : Nat} {cs : List Value} {x : DataW H × List MemPlace} (ht : P.underlying t = some .string) (h : DataW.trod enc P w base spare held fuel t cs = some x) : ∃ s, RdVs w [.str s] cs [] := by
 obtain ⟨s, rfl, _, hs⟩ := DataW.trod_string ht h
 exact ⟨s, RdVs.single (by simp only [Rd]; exact ⟨trivial, hs, trivial⟩)⟩
theorem rows_of {α : Type} (cd : α → List CD) (b C : Nat) : ∀ (n off : Nat), (∀ i, i < n → ∃ y cs f, CellsAt w b (off + i * C) cs ∧ RdVs w (cd y) cs f ∧ cs.length = C) → ∃ (ys : List α) (fp : List Nat), ys.length = n ∧ RdRows w b off (ys.map cd) fp
 | 0, off, _ => ⟨[], [], rfl, by simp [RdRows]⟩
 | n + 1, off, h => by
  obtain ⟨y, cs, f, h1, h2, h3⟩ := h 0 (by omega)
  rw [Nat.zero_mul, Nat.add_zero] at h1
  obtain ⟨ys, fp, h4, h5⟩ := rows_of cd b C n (off + C) (fun i hi => by
   obtain ⟨y, cs, f, g1, g2, g3⟩ := h (i + 1) (by omega)
   refine ⟨y, cs, f, ?_, g2, g3⟩
   rw [show off + C + i * C = off + (i + 1) * C from by rw [Nat.add_mul]; omega]; exact g1)
  refine ⟨y :: ys, f ++ fp, by simp [h4], ?_⟩
  simp only [List.map_cons, RdRows]
  exact ⟨cs, f, fp, rfl, h1, h2, by rw [← h2.length, h3]; exact h5⟩
/-- A slice, out of what is said of its elements. -/
theorem zaD {α : Type} (cd : α → List CD) {t e C fuel : Nat} {cs : List Value} {x : DataW H × List MemPlace} (ht : P.underlying t = some (.slice e)) (hC : P.cellsOf e = C) (hpos : 0 < C)
  (h : DataW.trod enc P w base spare held fuel t cs = some x) (hel : ∀ n, fuel = n + 1 → ∀ cs' x', DataW.trod enc P w base spare held n e cs' = some x' → ∃ y fp, RdVs w (cd y) cs' fp) :
  ∃ (ys : List α) (v : Value) (fp : List Nat), cs = [v] ∧ Rd w (.sl (ys.map cd)) v fp := by
 rcases DataW.trod_slice ht h with ⟨rfl, _⟩ | ⟨a, len, cap, elems, rest, n, hn, rfl, _, _, hl, hm, hlen, hi, _, _⟩
 ·exact ⟨[], _, [], rfl, by simp only [List.map_nil, Rd]; exact ⟨none, 0, rfl, by simp, by simp [maxLen], by simp⟩⟩
 ·by_cases h0 : len = 0
  ·subst h0
   exact ⟨[], _, [], rfl, by simp only [List.map_nil, Rd]; exact ⟨_, cap, rfl, by simp, hm, by simp⟩⟩
  ·have hcell : ∀ i, i < len → ∃ cs', cs'.length = C ∧ (∀ j, j < C → w.cell? ((a.add (i * C)).add j) = cs'[j]?) ∧ ∃ x', DataW.trod enc P w base spare held n e cs' = some x' := by
    intro i hil
    have h1 := hi i hil
    rw [hC] at h1
    have h2 : elems[i]? = some elems[i] := List.getElem?_eq_getElem (by omega)
    rw [h2, Option.bind_eq_some_iff] at h1
    obtain ⟨cs', h3, h4⟩ := h1
    obtain ⟨_, h5, h6⟩ := World.cells?_some h3
    exact ⟨cs', h5, h6, _, h4⟩
   obtain ⟨ab, ao, asp⟩ := a
   have hsp : asp = none := by
    obtain ⟨cs', h5, h6, _⟩ := hcell 0 (by omega)
    have h7 := h6 0 hpos
    rw [List.getElem?_eq_getElem (by omega)] at h7
    simp only [Nat.zero_mul, Addr.add, if_true] at h7
    cases asp with
    | none => rfl
    | some q =>
     simp only [World.cell?] at h7
     split at h7 <;> simp at h7
   subst hsp
   obtain ⟨ys, fp, h4, h5⟩ := rows_of (w := w) cd ab C len ao (fun i hil => by
    obtain ⟨cs', h5, h6, x', h7⟩ := hcell i hil
    obtain ⟨y, f, h8⟩ := hel n hn cs' x' h7
    refine ⟨y, cs', f, fun j v hj => ?_, h8, h5⟩
    have hjC : j < C := by have := (List.getElem?_eq_some_iff.1 hj).1; omega
    have := h6 j hjC
    simp only [Addr.add_lit] at this
    rw [hj] at this
    exact this)
   have hab : ab < w.heap.size := by
    obtain ⟨cs', h5, h6, _⟩ := hcell 0 (by omega)
    have h7 := h6 0 hpos
    rw [List.getElem?_eq_getElem (by omega)] at h7
    simp only [Nat.zero_mul, Addr.add, if_true] at h7
    exact World.block_lt_of_cell? w _ h7
   refine ⟨ys, _, ab :: fp, rfl, ?_⟩
   simp only [Rd]
   refine ⟨_, cap, by rw [zcq, h4], by rw [zcq, h4]; exact hl, hm, .inr ⟨?_, ab, ao, fp, rfl, hab, rfl, h5⟩⟩
   intro he
   have : ys = [] := by simpa using he
   rw [this] at h4; simp at h4; omega
end
end Go.Proofs.YtoehhbkhdddeeaaDoor
