/- Parts of the proof: Open OpenB Rdr7 RdrG Num LawAtomOk. -/
import Derived.ChangeArms
import Derived.DataReads
import Derived.ProofKit
import Derived.OpenShut
import Derived.Test.YtoehhbkhdddeeaaDoorPl1
import Derived.Test.YtoehhbkhdddeeaaDoorPl6
import Derived.Laws.Concat
import Derived.Deep.LoopGhost
import Derived.Test.YtoehhbkhdddeeaaDoorPl17
import Derived.Test.YtoehhbkhdddeeaaDoorPl40
import Derived.Test.YtoehhbkhdddeeaaDoorPl27
import Derived.Test.YtoehhbkhdddeeaaDoorPl38
import Derived.Test.YtoehhbkhdddeeaaDoorPl39
import Derived.Test.YtoehhbkhdddeeaaDoorPl33
import Derived.BigQuiet
import Derived.Test.YtoehhbkhdddeeaaDoorPl45
namespace Go.Proofs.YtoehhbkhdddeeaaDoor
open Go Go.RowKit Go.ChangeShapes Go.WideShapes
set_option linter.unusedVariables false
set_option linter.unusedSimpArgs false
theorem list1 {α : Type} {a b : α} (h : [a] = [b]) : a = b := by simpa using h
section
variable {H : Type} {enc : TypeId × Value → H} {P : Program} {w : World} {base : Nat} {spare : Nat → Bool} {held : Bool}
end
end Go.Proofs.YtoehhbkhdddeeaaDoor
namespace Go.Proofs.YtoehhbkhdddeeaaDoor
open Go Go.RowKit Go.ChangeShapes Go.WideShapes
set_option linter.unusedVariables false
set_option linter.unusedSimpArgs false
theorem rd_bytes {H : Type} {enc : TypeId × Value → H} {P : Program} {w : World} {base : Nat} {spare : Nat → Bool} {held : Bool} {t e fuel : Nat} {cs : List Value} {x : DataW H × List MemPlace}
  (ht : P.underlying t = some (.slice e)) (he : P.underlying e = some (.int .u8)) (hC : P.cellsOf e = 1) (h : DataW.trod enc P w base spare held fuel t cs = some x) : ∃ v, cs = [v] ∧ Byts w v := by
 rcases DataW.trod_slice ht h with ⟨rfl, _⟩ | ⟨a, len, cap, elems, rest, n, hn, rfl, _, _, hl, hm, hlen, hi, _, _⟩
 ·exact ⟨_, rfl, none, 0, 0, rfl, Nat.le_refl _, by omega, .inl rfl⟩
 ·have hm' : cap ≤ 9223372036854775807 := by simpa [maxLen] using hm
  refine ⟨_, rfl, some a, len, cap, rfl, hl, hm', ?_⟩
  by_cases h0 : len = 0
  ·exact .inl h0
  ·have hcell : ∀ i, i < len → ∃ cs', cs'.length = 1 ∧ (∀ j, j < 1 → w.cell? ((a.add (i * 1)).add j) = cs'[j]?) ∧ ∃ x', DataW.trod enc P w base spare held n e cs' = some x' := by
    intro i hil
    have h1 := hi i hil
    rw [hC] at h1
    have h2 : elems[i]? = some elems[i] := List.getElem?_eq_getElem (by omega)
    rw [h2, Option.bind_eq_some_iff] at h1
    obtain ⟨cs', h3, h4⟩ := h1
    obtain ⟨_, h5, h6⟩ := World.cells?_some h3
    exact ⟨cs', h5, h6, _, h4⟩
   obtain ⟨ab, ao, asp⟩ := a
   have hsp : asp = none := by
    obtain ⟨cs', h5, h6, _⟩ := hcell 0 (by omega)
    have h7 := h6 0 (by omega)
    rw [List.getElem?_eq_getElem (by omega)] at h7
    simp only [Nat.zero_mul, Addr.add, if_true] at h7
    cases asp with
    | none => rfl
    | some q =>
     simp only [World.cell?] at h7
     split at h7 <;> simp at h7
   subst hsp
   have hab : ab < w.heap.size := by
    obtain ⟨cs', h5, h6, _⟩ := hcell 0 (by omega)
    have h7 := h6 0 (by omega)
    rw [List.getElem?_eq_getElem (by omega)] at h7
    simp only [Nat.zero_mul, Addr.add, if_true] at h7
    exact World.block_lt_of_cell? w _ h7
   refine .inr ⟨ab, ao, rfl, hab, fun i hil => ?_⟩
   obtain ⟨cs', h5, h6, x', h7⟩ := hcell i hil
   obtain ⟨z, rfl, _, hw⟩ := DataW.trod_int he h7
   have hb := bounds_u8 hw
   refine ⟨z.toNat, by omega, ?_⟩
   have h8 := h6 0 (by omega)
   simp only [Addr.add_lit, Nat.mul_one, Nat.add_zero, zb9] at h8
   rw [h8, Int.toNat_of_nonneg (by omega)]
theorem open_Byts {H : Type} {enc : TypeId × Value → H} {w : World} {base : Nat} {spare : Nat → Bool} {held : Bool} (fuel : Nat) (cs : List Value) (x : DataW H × List MemPlace) (h : DataW.trod enc Tryd.prog w base spare held fuel 22 cs = some x) : ∃ v, cs = [v] ∧ Byts w v :=
 rd_bytes Tryd.underlying22 Tryd.underlying5 (by kernel_rfl) h
end Go.Proofs.YtoehhbkhdddeeaaDoor
section
namespace Go.Proofs.YtoehhbkhdddeeaaDoor
open Go Go.RowKit
set_option linter.unusedVariables false
set_option linter.unusedSimpArgs false
set_option maxRecDepth 100000
set_option maxHeartbeats 16000000
theorem Atm.tame.small {y : Atm} (h : y.tame) : y.small := by
 have hs : ∀ (l : List Tm), (∀ u ∈ l, u.size ≤ 1000) → Tm.sizes l ≤ 1000 * l.length := by
  intro l
  induction l with
  | nil => intro _; simp [Tm.sizes]
  | cons u l ih => intro h; have h1 := h u (by simp); have h2 := ih (fun v hv => h v (by simp [hv])); simp only [Tm.sizes, List.length_cons]; omega
 have h1 := hs y.nums h.2.2.2.2.1
 have h2 := h.2.2.1
 exact ⟨by have := h.1; omega, by have := h.2.1; omega, by omega⟩
end Go.Proofs.YtoehhbkhdddeeaaDoor
end
