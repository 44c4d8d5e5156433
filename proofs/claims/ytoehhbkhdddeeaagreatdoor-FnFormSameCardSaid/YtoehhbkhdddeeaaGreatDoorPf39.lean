/- Parts of the proof: Open OpenB Bx9 RdrG. -/
import Derived.ChangeArms
import Derived.DataReads
import Derived.ProofKit
import Derived.OpenShut
import Derived.Test.YtoehhbkhdddeeaaGreatDoorPf1
import Derived.Test.YtoehhbkhdddeeaaGreatDoorPf9
import Derived.Test.YtoehhbkhdddeeaaGreatDoorPf10
import Derived.Test.YtoehhbkhdddeeaaGreatDoorPf8
import Derived.Test.YtoehhbkhdddeeaaGreatDoorPf37
import Derived.Test.YtoehhbkhdddeeaaGreatDoorPf19
namespace Go.Proofs.YtoehhbkhdddeeaaGreatDoor
open Go Go.RowKit Go.ChangeShapes Go.WideShapes
set_option linter.unusedVariables false
set_option linter.unusedSimpArgs false
theorem list1 {α : Type} {a b : α} (h : [a] = [b]) : a = b := by simpa using h
section
variable {H : Type} {enc : TypeId × Value → H} {P : Program} {w : World} {base : Nat} {spare : Nat → Bool} {held : Bool}
end
end Go.Proofs.YtoehhbkhdddeeaaGreatDoor
namespace Go.Proofs.YtoehhbkhdddeeaaGreatDoor
open Go Go.RowKit Go.ChangeShapes Go.WideShapes
set_option linter.unusedVariables false
set_option linter.unusedSimpArgs false
theorem rd_bytes {H : Type} {enc : TypeId × Value → H} {P : Program} {w : World} {base : Nat} {spare : Nat → Bool} {held : Bool} {t e fuel : Nat} {cs : List Value} {x : DataW H × List MemPlace}
  (ht : P.underlying t = some (.slice e)) (he : P.underlying e = some (.int .u8)) (hC : P.cellsOf e = 1) (h : DataW.trod enc P w base spare held fuel t cs = some x) : ∃ v, cs = [v] ∧ Byts w v := by
 rcases DataW.trod_slice ht h with ⟨rfl, _⟩ | ⟨a, len, cap, elems, rest, n, hn, rfl, _, _, hl, hm, hlen, hi, _, _⟩
 ·exact ⟨_, rfl, none, 0, 0, rfl, Nat.le_refl _, by omega, .inl rfl⟩
 ·have hm' : cap ≤ 9223372036854775807 := by simpa [maxLen] using hm
  refine ⟨_, rfl, some a, len, cap, rfl, hl, hm', ?_⟩
  by_cases h0 : len = 0
  ·exact .inl h0
  ·have hcell : ∀ i, i < len → ∃ cs', cs'.length = 1 ∧ (∀ j, j < 1 → w.cell? ((a.add (i * 1)).add j) = cs'[j]?) ∧ ∃ x', DataW.trod enc P w base spare held n e cs' = some x' := by
    intro i hil
    have h1 := hi i hil
    rw [hC] at h1
    have h2 : elems[i]? = some elems[i] := List.getElem?_eq_getElem (by omega)
    rw [h2, Option.bind_eq_some_iff] at h1
    obtain ⟨cs', h3, h4⟩ := h1
    obtain ⟨_, h5, h6⟩ := World.cells?_some h3
    exact ⟨cs', h5, h6, _, h4⟩
   obtain ⟨ab, ao, asp⟩ := a
   have hsp : asp = none := by
    obtain ⟨cs', h5, h6, _⟩ := hcell 0 (by omega)
    have h7 := h6 0 (by omega)
    rw [List.getElem?_eq_getElem (by omega)] at h7
    simp only [Nat.zero_mul, Addr.add, if_true] at h7
    cases asp with
    | none => rfl
    | some q =>
     simp only [World.cell?] at h7
     split at h7 <;> simp at h7
   subst hsp
   have hab : ab < w.heap.size := by
    obtain ⟨cs', h5, h6, _⟩ := hcell 0 (by omega)
    have h7 := h6 0 (by omega)
    rw [List.getElem?_eq_getElem (by omega)] at h7
    simp only [Nat.zero_mul, Addr.add, if_true] at h7
    exact World.block_lt_of_cell? w _ h7
   refine .inr ⟨ab, ao, rfl, hab, fun i hil => ?_⟩
   obtain ⟨cs', h5, h6, x', h7⟩ := hcell i hil
   obtain ⟨z, rfl, _, hw⟩ := DataW.trod_int he h7
   have hb := bounds_u8 hw
   refine ⟨z.toNat, by omega, ?_⟩
   have h8 := h6 0 (by omega)
   simp only [Addr.add_lit, Nat.mul_one, Nat.add_zero, zdN] at h8
   rw [h8, Int.toNat_of_nonneg (by omega)]
theorem open_Byts {H : Type} {enc : TypeId × Value → H} {w : World} {base : Nat} {spare : Nat → Bool} {held : Bool} (fuel : Nat) (cs : List Value) (x : DataW H × List MemPlace) (h : DataW.trod enc Tryz.prog w base spare held fuel 22 cs = some x) : ∃ v, cs = [v] ∧ Byts w v :=
 rd_bytes Tryz.underlying22 Tryz.underlying5 (by kernel_rfl) h
end Go.Proofs.YtoehhbkhdddeeaaGreatDoor
section
namespace Go.Proofs.YtoehhbkhdddeeaaGreatDoor
open Go Go.RowKit
set_option linter.unusedVariables false
set_option linter.unusedSimpArgs false
set_option maxRecDepth 100000
set_option maxHeartbeats 16000000
/-- Block b holds vs, and may be written. -/
def Box (vs : List Value) (b : Nat) (w : World) : Prop := b < w.heap.size ∧ (∀ j u, vs[j]? = some u → w.cell? ⟨b, j, none⟩ = some u) ∧ ∀ j, w.frozen? ⟨b, j, none⟩ = false
theorem Box.new (w : World) (vs : List Value) (T : TypeId) : Box vs w.heap.size (w.alloc (.cells vs.toArray T)) := ⟨by simp, fun j u hu => zj w vs T j u hu, fun j => zan _ _ _ _⟩
theorem Box.below {w w' : World} {b : Nat} {vs : List Value} (h : Box vs b w) (hb : Below w.heap.size w w') : Box vs b w' :=
 ⟨zdQ h.1 hb.size, fun j u hu => zb (h.2.1 j u hu) hb, fun j => (zh (hb.block b h.1)).trans (h.2.2 j)⟩
theorem Box.alloc {w : World} {b : Nat} {vs : List Value} (h : Box vs b w) (o : Obj) : Box vs b (w.alloc o) := h.below (za w o)
theorem Box.drew {w : World} {b : Nat} {vs : List Value} (h : Box vs b w) : Box vs b w.drew := h
theorem Box.only {w w' : World} {rb b : Nat} {vs : List Value} (h : Box vs b w) (ho : Only [rb] w w') (hn : b ≠ rb) : Box vs b w' :=
 ⟨zdQ h.1 ho.size, fun j u hu => ho.cellk (h.2.1 j u hu) hn, fun j => ho.free (h.2.2 j) h.1 hn⟩
theorem Box.put {u : World} {b : Nat} {vs : List Value} (h : Box vs b u) {k : Nat} (hk : k < vs.length) (v : Value) : Box (vs.set k v) b (u.setCell ⟨b, k, none⟩ v) := by
 obtain ⟨h2, h3, h4⟩ := h
 refine ⟨by simpa [World.setCell] using h2, fun j x hx => ?_, fun j => by simp [go_sem, h4 j]⟩
 by_cases e : j = k
 ·subst e
  rw [List.getElem?_set_self hk] at hx
  obtain rfl := Option.some.inj hx
  exact World.cell?_setCell_same u ⟨b, j, none⟩ v (h3 j _ (List.getElem?_eq_getElem hk))
 ·rw [List.getElem?_set_ne (fun h => e h.symm)] at hx
  exact (World.cell?_setCell_other _ _ _ _ (by intro h; simp only [Addr.mk.injEq] at h; omega)).trans (h3 j x hx)
theorem Box.sets_other {u : World} {lb b : Nat} {vs : List Value} (h : Box vs lb u) (hne : lb < b ∨ b < lb) (ups : List (Nat × Value)) : Box vs lb (zi b ups u) := by
 have hL := Loc.sets (b := b) (lo := b) (hi := b + 1) (Nat.le_refl _) (by omega) ups (Loc.refl _ _ u)
 have hk := hL.block lb h.1 (by omega)
 exact ⟨zdQ h.1 hL.size, fun j x hx => zo hk (h.2.1 j x hx), fun j => zD hk (h.2.2 j)⟩
/-- The values with their places. -/
def zc : Nat → List Value → List (Nat × Value)
 | _, [] => []
 | k, v :: r => (k, v) :: zc (k + 1) r
theorem Box.puts_from : ∀ (vs done old : List Value) {u : World} {b : Nat}, old.length = vs.length → Box (done ++ old) b u → Box (done ++ vs) b (zi b (zc done.length vs) u)
 | [], done, old, u, b, hl, h => by
  obtain rfl : old = [] := List.eq_nil_of_length_eq_zero hl
  exact h
 | v :: r, done, [], u, b, hl, h => by simp at hl
 | v :: r, done, o :: old, u, b, hl, h => by
  have h1 := h.put (k := done.length) (by simp) v
  rw [List.set_append_right _ _ (Nat.le_refl _), Nat.sub_self, zdL] at h1
  have h2 := Box.puts_from r (done ++ [v]) old (by simpa using hl) (by simpa using h1)
  simpa [zi, zc] using h2
theorem Box.puts {u : World} {b : Nat} {old : List Value} (vs : List Value) (h : Box old b u) (hl : old.length = vs.length) : Box vs b (zi b (zc 0 vs) u) := by
 have h1 := Box.puts_from vs [] old hl (by simpa using h)
 simpa using h1
theorem zak {w : World} {B b : Nat} (hb : B ≤ b) : ∀ (ups : List (Nat × Value)) {u : World}, Below B w u → Below B w (zi b ups u)
 | [], _, h => h
 | p :: r, _, h => zak hb r (h.setCell hb _)
/-- All but the blocks A and B as it was. -/
def Same2 (A B : Nat) (w w' : World) : Prop := ∀ b, b < w.heap.size → b ≠ A → b ≠ B → w'.heap[b]? = w.heap[b]?
theorem Same2.refl (A B : Nat) (w : World) : Same2 A B w w := fun _ _ _ _ => rfl
theorem Same2.sets {A B b : Nat} {w : World} (hb : b = A ∨ b = B) : ∀ (ups : List (Nat × Value)) {u : World}, Same2 A B w u → Same2 A B w (zi b ups u)
 | [], _, h => h
 | p :: r, u, h => Same2.sets hb r (fun q h1 h2 h3 => (Below.heap_setCell u _ _ q (fun e : q = b => by rcases hb with hb | hb <;> omega)).trans (h q h1 h2 h3))
theorem Same2.trans {A B : Nat} {w w1 w2 : World} (h : Same2 A B w w1) (h' : Same2 A B w1 w2) (hs : w.heap.size ≤ w1.heap.size) : Same2 A B w w2 := fun b h1 h2 h3 => (h' b (zdQ h1 hs) h2 h3).trans (h b h1 h2 h3)
theorem Rd.same2 {A B : Nat} {w w' : World} {d : CD} {v : Value} {f : List Nat} (h : Rd w d v f) (hs : Same2 A B w w') (hf : ∀ b ∈ f, b ≠ A ∧ b ≠ B) : Rd w' d v f := h.same d (fun b hb => hs b (h.lt d b hb) (hf b hb).1 (hf b hb).2)
theorem RdVs.same2 {A B : Nat} {w w' : World} {d : List CD} {v : List Value} {f : List Nat} (h : RdVs w d v f) (hs : Same2 A B w w') (hf : ∀ b ∈ f, b ≠ A ∧ b ≠ B) : RdVs w' d v f := h.same d (fun b hb => hs b (h.lt d b hb) (hf b hb).1 (hf b hb).2)
/-- Both stores of two results, in the one order. -/
theorem zdj {w W : World} {A B : Nat} {oa ob : List Value} (va vb : List Value) (hA : Box oa A W) (hB : Box ob B W) (hne : A < B) (la : oa.length = va.length) (lb : ob.length = vb.length) (hbw : Below w.heap.size w W) (hAw : w.heap.size ≤ A) :
  Box va A (zi B (zc 0 vb) (zi A (zc 0 va) W)) ∧ Box vb B (zi B (zc 0 vb) (zi A (zc 0 va) W)) ∧ Below w.heap.size w (zi B (zc 0 vb) (zi A (zc 0 va) W)) ∧ Same2 A B W (zi B (zc 0 vb) (zi A (zc 0 va) W)) :=
 ⟨(hA.puts va la).sets_other (.inl hne) _, (hB.sets_other (.inr hne) _).puts vb lb, zak (by omega) _ (zak hAw _ hbw), ((Same2.refl A B W).sets (.inl rfl) _).sets (.inr rfl) _⟩
end Go.Proofs.YtoehhbkhdddeeaaGreatDoor
end
