/- Parts of the proof: Open OpenB PutE PutF RdrG. -/
import Derived.ChangeArms
import Derived.DataReads
import Derived.ProofKit
import Derived.OpenShut
import Derived.Test.YticlgpkjdmcnaaaPa1
import Derived.Test.YticlgpkjdmcnaaaPa17
import Derived.Test.YticlgpkjdmcnaaaPa27
import Derived.Test.YticlgpkjdmcnaaaPa22
import Derived.Test.YticlgpkjdmcnaaaPa39
import Derived.Test.YticlgpkjdmcnaaaPa7
namespace Go.Proofs.Yticlgpkjdmcnaaa
open Go Go.RowKit Go.ChangeShapes Go.WideShapes
set_option linter.unusedVariables false
set_option linter.unusedSimpArgs false
theorem list1 {α : Type} {a b : α} (h : [a] = [b]) : a = b := by simpa using h
section
variable {H : Type} {enc : TypeId × Value → H} {P : Program} {w : World} {base : Nat} {spare : Nat → Bool} {held : Bool}
end
end Go.Proofs.Yticlgpkjdmcnaaa
namespace Go.Proofs.Yticlgpkjdmcnaaa
open Go Go.RowKit Go.ChangeShapes Go.WideShapes
set_option linter.unusedVariables false
set_option linter.unusedSimpArgs false
theorem rd_bytes {H : Type} {enc : TypeId × Value → H} {P : Program} {w : World} {base : Nat} {spare : Nat → Bool} {held : Bool} {t e fuel : Nat} {cs : List Value} {x : DataW H × List MemPlace}
  (ht : P.underlying t = some (.slice e)) (he : P.underlying e = some (.int .u8)) (hC : P.cellsOf e = 1) (h : DataW.trod enc P w base spare held fuel t cs = some x) : ∃ v, cs = [v] ∧ Byts w v := by
 rcases DataW.trod_slice ht h with ⟨rfl, _⟩ | ⟨a, len, cap, elems, rest, n, hn, rfl, _, _, hl, hm, hlen, hi, _, _⟩
 ·exact ⟨_, rfl, none, 0, 0, rfl, Nat.le_refl _, by omega, .inl rfl⟩
 ·have hm' : cap ≤ 9223372036854775807 := by simpa [maxLen] using hm
  refine ⟨_, rfl, some a, len, cap, rfl, hl, hm', ?_⟩
  by_cases h0 : len = 0
  ·exact .inl h0
  ·have hcell : ∀ i, i < len → ∃ cs', cs'.length = 1 ∧ (∀ j, j < 1 → w.cell? ((a.add (i * 1)).add j) = cs'[j]?) ∧ ∃ x', DataW.trod enc P w base spare held n e cs' = some x' := by
    intro i hil
    have h1 := hi i hil
    rw [hC] at h1
    have h2 : elems[i]? = some elems[i] := List.getElem?_eq_getElem (by omega)
    rw [h2, Option.bind_eq_some_iff] at h1
    obtain ⟨cs', h3, h4⟩ := h1
    obtain ⟨_, h5, h6⟩ := World.cells?_some h3
    exact ⟨cs', h5, h6, _, h4⟩
   obtain ⟨ab, ao, asp⟩ := a
   have hsp : asp = none := by
    obtain ⟨cs', h5, h6, _⟩ := hcell 0 (by omega)
    have h7 := h6 0 (by omega)
    rw [List.getElem?_eq_getElem (by omega)] at h7
    simp only [Nat.zero_mul, Addr.add, if_true] at h7
    cases asp with
    | none => rfl
    | some q =>
     simp only [World.cell?] at h7
     split at h7 <;> simp at h7
   subst hsp
   have hab : ab < w.heap.size := by
    obtain ⟨cs', h5, h6, _⟩ := hcell 0 (by omega)
    have h7 := h6 0 (by omega)
    rw [List.getElem?_eq_getElem (by omega)] at h7
    simp only [Nat.zero_mul, Addr.add, if_true] at h7
    exact World.block_lt_of_cell? w _ h7
   refine .inr ⟨ab, ao, rfl, hab, fun i hil => ?_⟩
   obtain ⟨cs', h5, h6, x', h7⟩ := hcell i hil
   obtain ⟨z, rfl, _, hw⟩ := DataW.trod_int he h7
   have hb := bounds_u8 hw
   refine ⟨z.toNat, by omega, ?_⟩
   have h8 := h6 0 (by omega)
   simp only [Addr.add_lit, Nat.mul_one, Nat.add_zero, zd0] at h8
   rw [h8, Int.toNat_of_nonneg (by omega)]
theorem open_Byts {H : Type} {enc : TypeId × Value → H} {w : World} {base : Nat} {spare : Nat → Bool} {held : Bool} (fuel : Nat) (cs : List Value) (x : DataW H × List MemPlace) (h : DataW.trod enc Try.prog w base spare held fuel 22 cs = some x) : ∃ v, cs = [v] ∧ Byts w v :=
 rd_bytes Try.underlying22 Try.underlying5 (by kernel_rfl) h
end Go.Proofs.Yticlgpkjdmcnaaa
section
namespace Go.Proofs.Yticlgpkjdmcnaaa
open Go Go.RowKit
set_option linter.unusedVariables false
set_option linter.unusedSimpArgs false
set_option maxRecDepth 100000
set_option maxHeartbeats 16000000
/-- Small. -/
theorem Atm.wtV_eq (y : Atm) : wtV y.cd = wtV y.a.cd + (wtV y.b.cd + (y.nums.length + wtR (y.nums.map Tm.cd) + y.times.length)) := by
 simp only [Atm.cd, zF, zaO, zao, zav, zdg]; omega
def Atm.tame (y : Atm) : Prop := y.a.size ≤ 1000 ∧ y.b.size ≤ 1000 ∧ y.nums.length ≤ 10 ∧ y.times.length ≤ 10 ∧ (∀ u ∈ y.nums, u.size ≤ 1000) ∧ wtV y.cd ≤ 5000
theorem zdt : ∀ (ts : List Tm), (∀ u ∈ ts, u.good) → wtR (ts.map Tm.cd) ≤ 300 * ts.length
 | [], _ => by simp [wtR]
 | t :: ts, h => by
  have h1 := zdt ts (fun u hu => h u (by simp [hu]))
  have h2 := zcm t _ (h t (by simp)).2
  have h3 := (h t (by simp)).1
  simp only [List.map_cons, zZ, List.length_cons]; omega
theorem Atm.few.tame {y : Atm} (h : y.few) : y.tame := ⟨by have := h.1.1; omega, by have := h.2.1.1; omega, by have := h.2.2.1; omega, by have := h.2.2.1; have := h.2.2.2.1; omega, fun u hu => by have := (h.2.2.2.2 u hu).1; omega, by
 have h1 := zdt y.nums h.2.2.2.2
 have h2 := h.2.2.1
 have h3 := h.2.2.2.1
 have h4 := h.1.2
 have h5 := h.2.1.2
 rw [Atm.wtV_eq]; omega⟩
/-- It reads, in blocks from lo on, and not in V. -/
def RdX (w : World) (lo V : Nat) (d : CD) (v : Value) : Prop := ∃ f, Rd w d v f ∧ ∀ b ∈ f, lo ≤ b ∧ b ≠ V
theorem RdX.same {w w' : World} {lo V : Nat} {d : CD} {v : Value} (h : RdX w lo V d v) (hs : ∀ b, b < w.heap.size → lo ≤ b → b ≠ V → w'.heap[b]? = w.heap[b]?) : RdX w' lo V d v := by
 obtain ⟨f, h1, h2⟩ := h
 exact ⟨f, h1.same d (fun b hb => hs b (h1.lt d b hb) (h2 b hb).1 (h2 b hb).2), h2⟩
/-- An atom in memory, as it reads. -/
structure AtL (w : World) (lo V : Nat) (y : Atm) (a2 : Option Addr) (c2 : Nat) (a4 : Option Addr) (c4 : Nat) (a5 : Option Addr) (c5 : Nat) (a6 : Option Addr) (c6 : Nat) : Prop where
 k : I64 y.kind
 na : y.a.name.size ≤ maxLen
 ra : RdX w lo V (.sl (y.a.kids.map Tm.cd)) (.slice a2 y.a.kids.length c2)
 nb : y.b.name.size ≤ maxLen
 rb : RdX w lo V (.sl (y.b.kids.map Tm.cd)) (.slice a4 y.b.kids.length c4)
 r5 : RdX w lo V (.sl (y.nums.map Tm.cd)) (.slice a5 y.nums.length c5)
 r6 : RdX w lo V (.sl (y.times.map zq)) (.slice a6 y.times.length c6)
 bd : I64 y.bound
theorem AtL.rd {w : World} {lo V : Nat} {y : Atm} {a2 : Option Addr} {c2 : Nat} {a4 : Option Addr} {c4 : Nat} {a5 : Option Addr} {c5 : Nat} {a6 : Option Addr} {c6 : Nat} (h : AtL w lo V y a2 c2 a4 c4 a5 c5 a6 c6) : ∃ f, RdVs w y.cd [.int .i64 y.kind, .string y.a.name, .slice a2 y.a.kids.length c2, .string y.b.name, .slice a4 y.b.kids.length c4, .slice a5 y.nums.length c5, .slice a6 y.times.length c6, .int .i64 y.bound, .bool y.strict] f ∧ ∀ b ∈ f, lo ≤ b := by
 obtain ⟨f2, r2, h2⟩ := h.ra
 obtain ⟨f4, r4, h4⟩ := h.rb
 obtain ⟨f5, r5, h5⟩ := h.r5
 obtain ⟨f6, r6, h6⟩ := h.r6
 refine ⟨_, Atm.close h.k h.na r2 h.nb r4 r5 r6 h.bd, fun b hb => ?_⟩
 rcases zd5.1 hb with h1 | h1
 ·exact (h2 b h1).1
 rcases zd5.1 h1 with h1 | h1
 ·exact (h4 b h1).1
 rcases zd5.1 h1 with h1 | h1
 ·exact (h5 b h1).1
 ·exact (h6 b h1).1
theorem AtL.same {w w' : World} {lo V : Nat} {y : Atm} {a2 : Option Addr} {c2 : Nat} {a4 : Option Addr} {c4 : Nat} {a5 : Option Addr} {c5 : Nat} {a6 : Option Addr} {c6 : Nat} (h : AtL w lo V y a2 c2 a4 c4 a5 c5 a6 c6) (hs : ∀ b, b < w.heap.size → lo ≤ b → b ≠ V → w'.heap[b]? = w.heap[b]?) : AtL w' lo V y a2 c2 a4 c4 a5 c5 a6 c6 :=
 ⟨h.k, h.na, h.ra.same hs, h.nb, h.rb.same hs, h.r5.same hs, h.r6.same hs, h.bd⟩
theorem AtL.below {w w' : World} {lo V : Nat} {y : Atm} {a2 : Option Addr} {c2 : Nat} {a4 : Option Addr} {c4 : Nat} {a5 : Option Addr} {c5 : Nat} {a6 : Option Addr} {c6 : Nat} (h : AtL w lo V y a2 c2 a4 c4 a5 c5 a6 c6) (hb : Below w.heap.size w w') : AtL w' lo V y a2 c2 a4 c4 a5 c5 a6 c6 := h.same fun b h1 _ _ => hb.block b h1
theorem AtL.only {w w' : World} {rb lo V : Nat} {y : Atm} {a2 : Option Addr} {c2 : Nat} {a4 : Option Addr} {c4 : Nat} {a5 : Option Addr} {c5 : Nat} {a6 : Option Addr} {c6 : Nat} (h : AtL w lo V y a2 c2 a4 c4 a5 c5 a6 c6) (ho : Only [rb] w w') (hr : rb < lo) : AtL w' lo V y a2 c2 a4 c4 a5 c5 a6 c6 := h.same fun b h1 h2 _ => ho.block b h1 (by simp; omega)
theorem AtL.kind {w : World} {lo V : Nat} {y : Atm} {a2 : Option Addr} {c2 : Nat} {a4 : Option Addr} {c4 : Nat} {a5 : Option Addr} {c5 : Nat} {a6 : Option Addr} {c6 : Nat} (h : AtL w lo V y a2 c2 a4 c4 a5 c5 a6 c6) {x : Int} (hx : I64 x) : AtL w lo V { y with kind := x } a2 c2 a4 c4 a5 c5 a6 c6 := ⟨hx, h.na, h.ra, h.nb, h.rb, h.r5, h.r6, h.bd⟩
theorem AtL.bound {w : World} {lo V : Nat} {y : Atm} {a2 : Option Addr} {c2 : Nat} {a4 : Option Addr} {c4 : Nat} {a5 : Option Addr} {c5 : Nat} {a6 : Option Addr} {c6 : Nat} (h : AtL w lo V y a2 c2 a4 c4 a5 c5 a6 c6) {x : Int} (hx : I64 x) : AtL w lo V { y with bound := x } a2 c2 a4 c4 a5 c5 a6 c6 := ⟨h.k, h.na, h.ra, h.nb, h.rb, h.r5, h.r6, hx⟩
/-- Its rows are not V. -/
def AtOff (V : Nat) (y : Atm) (fA fB : List Nat) (a5 : Option Addr) (c5 : Nat) (a6 : Option Addr) (c6 : Nat) (fn : List Nat) : Prop := (Value.slice a5 y.nums.length c5).ownBlock ≠ some V ∧ (Value.slice a6 y.times.length c6).ownBlock ≠ some V ∧ ∀ b, b ∈ fA ∨ b ∈ fB ∨ b ∈ fn → b ≠ V
theorem AtOx.off {w : World} {lo : Nat} {y : Atm} {a2 : Option Addr} {c2 : Nat} {fA : List Nat} {a4 : Option Addr} {c4 : Nat} {fB : List Nat} {a5 : Option Addr} {c5 : Nat} {a6 : Option Addr} {c6 : Nat} {fn : List Nat} (h : AtOx w lo y a2 c2 fA a4 c4 fB a5 c5 a6 c6 fn) : AtOff w.heap.size y fA fB a5 c5 a6 c6 fn :=
 ⟨fun e => by have := (h.o5.block e).2; omega, fun e => by have := (h.o6.block e).2; omega, fun b hb => by
  rcases hb with h1 | h1 | h1
  ·have := h.ra.lt _ b h1; omega
  ·have := h.rb.lt _ b h1; omega
  ·have := h.o5.lt b h1; omega⟩
theorem Lst.put {u : World} {rb b : Nat} {vs : List Value} (h : Lst rb vs b u) {k : Nat} (hk : k < vs.length) (v : Value) : Lst rb (vs.set k v) b (u.setCell ⟨b, k, none⟩ v) := by
 obtain ⟨h1, h2, h3, h4⟩ := h
 refine ⟨h1, by simpa [World.setCell] using h2, fun j x hx => ?_, fun j => by simp [go_sem, h4 j]⟩
 by_cases e : j = k
 ·subst e
  rw [List.getElem?_set_self hk] at hx
  obtain rfl := Option.some.inj hx
  exact World.cell?_setCell_same u ⟨b, j, none⟩ v (h3 j _ (List.getElem?_eq_getElem hk))
 ·rw [List.getElem?_set_ne (fun h => e h.symm)] at hx
  exact (World.cell?_setCell_other _ _ _ _ (by intro h; simp only [Addr.mk.injEq] at h; omega)).trans (h3 j x hx)
theorem Lst.grownL {u u' : World} {rb b : Nat} {vs : List Value} {row : Option Nat} (h : Lst rb vs b u) (hg : u.grownBy u' row) (hr : ∀ q, row = some q → q ≠ b) : Lst rb vs b u' := by
 have hn : row ≠ some b := fun e => hr b e rfl
 exact ⟨h.1, zd3 h.2.1 hg.size, fun j x hx => zu hg (h.2.2.1 j x hx) hn, fun j => zK hg h.2.1 (h.2.2.2 j) hn⟩
/-- Block b holds vs, and may be written. -/
def Box (vs : List Value) (b : Nat) (w : World) : Prop := b < w.heap.size ∧ (∀ j u, vs[j]? = some u → w.cell? ⟨b, j, none⟩ = some u) ∧ ∀ j, w.frozen? ⟨b, j, none⟩ = false
theorem Box.new (w : World) (vs : List Value) (T : TypeId) : Box vs w.heap.size (w.alloc (.cells vs.toArray T)) := ⟨by simp, fun j u hu => zw w vs T j u hu, fun j => zW _ _ _ _⟩
theorem Box.below {w w' : World} {b : Nat} {vs : List Value} (h : Box vs b w) (hb : Below w.heap.size w w') : Box vs b w' :=
 ⟨zd3 h.1 hb.size, fun j u hu => za (h.2.1 j u hu) hb, fun j => (zh (hb.block b h.1)).trans (h.2.2 j)⟩
theorem Box.alloc {w : World} {b : Nat} {vs : List Value} (h : Box vs b w) (o : Obj) : Box vs b (w.alloc o) := h.below (zb w o)
theorem Box.drew {w : World} {b : Nat} {vs : List Value} (h : Box vs b w) : Box vs b w.drew := h
theorem Box.only {w w' : World} {rb b : Nat} {vs : List Value} (h : Box vs b w) (ho : Only [rb] w w') (hn : b ≠ rb) : Box vs b w' :=
 ⟨zd3 h.1 ho.size, fun j u hu => ho.cellk (h.2.1 j u hu) hn, fun j => ho.free (h.2.2 j) h.1 hn⟩
theorem Box.put {u : World} {b : Nat} {vs : List Value} (h : Box vs b u) {k : Nat} (hk : k < vs.length) (v : Value) : Box (vs.set k v) b (u.setCell ⟨b, k, none⟩ v) := by
 obtain ⟨h2, h3, h4⟩ := h
 refine ⟨by simpa [World.setCell] using h2, fun j x hx => ?_, fun j => by simp [go_sem, h4 j]⟩
 by_cases e : j = k
 ·subst e
  rw [List.getElem?_set_self hk] at hx
  obtain rfl := Option.some.inj hx
  exact World.cell?_setCell_same u ⟨b, j, none⟩ v (h3 j _ (List.getElem?_eq_getElem hk))
 ·rw [List.getElem?_set_ne (fun h => e h.symm)] at hx
  exact (World.cell?_setCell_other _ _ _ _ (by intro h; simp only [Addr.mk.injEq] at h; omega)).trans (h3 j x hx)
theorem Box.sets_other {u : World} {lb b : Nat} {vs : List Value} (h : Box vs lb u) (hne : lb < b ∨ b < lb) (ups : List (Nat × Value)) : Box vs lb (zo b ups u) := by
 have hL := Loc.sets (b := b) (lo := b) (hi := b + 1) (Nat.le_refl _) (by omega) ups (Loc.refl _ _ u)
 have hk := hL.block lb h.1 (by omega)
 exact ⟨zd3 h.1 hL.size, fun j x hx => zg hk (h.2.1 j x hx), fun j => zl hk (h.2.2 j)⟩
/-- The values with their places. -/
def ze : Nat → List Value → List (Nat × Value)
 | _, [] => []
 | k, v :: r => (k, v) :: ze (k + 1) r
theorem Box.puts_from : ∀ (vs done old : List Value) {u : World} {b : Nat}, old.length = vs.length → Box (done ++ old) b u → Box (done ++ vs) b (zo b (ze done.length vs) u)
 | [], done, old, u, b, hl, h => by
  obtain rfl : old = [] := List.eq_nil_of_length_eq_zero hl
  exact h
 | v :: r, done, [], u, b, hl, h => by simp at hl
 | v :: r, done, o :: old, u, b, hl, h => by
  have h1 := h.put (k := done.length) (by simp) v
  rw [List.set_append_right _ _ (Nat.le_refl _), Nat.sub_self, zdY] at h1
  have h2 := Box.puts_from r (done ++ [v]) old (by simpa using hl) (by simpa using h1)
  simpa [zo, ze] using h2
theorem Box.puts {u : World} {b : Nat} {old : List Value} (vs : List Value) (h : Box old b u) (hl : old.length = vs.length) : Box vs b (zo b (ze 0 vs) u) := by
 have h1 := Box.puts_from vs [] old hl (by simpa using h)
 simpa using h1
theorem zO {w : World} {B b : Nat} (hb : B ≤ b) : ∀ (ups : List (Nat × Value)) {u : World}, Below B w u → Below B w (zo b ups u)
 | [], _, h => h
 | p :: r, _, h => zO hb r (h.setCell hb _)
/-- All but the blocks A and B as it was. -/
def Same2 (A B : Nat) (w w' : World) : Prop := ∀ b, b < w.heap.size → b ≠ A → b ≠ B → w'.heap[b]? = w.heap[b]?
theorem Same2.refl (A B : Nat) (w : World) : Same2 A B w w := fun _ _ _ _ => rfl
theorem Same2.sets {A B b : Nat} {w : World} (hb : b = A ∨ b = B) : ∀ (ups : List (Nat × Value)) {u : World}, Same2 A B w u → Same2 A B w (zo b ups u)
 | [], _, h => h
 | p :: r, u, h => Same2.sets hb r (fun q h1 h2 h3 => (Below.heap_setCell u _ _ q (fun e : q = b => by rcases hb with hb | hb <;> omega)).trans (h q h1 h2 h3))
theorem Same2.trans {A B : Nat} {w w1 w2 : World} (h : Same2 A B w w1) (h' : Same2 A B w1 w2) (hs : w.heap.size ≤ w1.heap.size) : Same2 A B w w2 := fun b h1 h2 h3 => (h' b (zd3 h1 hs) h2 h3).trans (h b h1 h2 h3)
theorem Rd.same2 {A B : Nat} {w w' : World} {d : CD} {v : Value} {f : List Nat} (h : Rd w d v f) (hs : Same2 A B w w') (hf : ∀ b ∈ f, b ≠ A ∧ b ≠ B) : Rd w' d v f := h.same d (fun b hb => hs b (h.lt d b hb) (hf b hb).1 (hf b hb).2)
theorem RdVs.same2 {A B : Nat} {w w' : World} {d : List CD} {v : List Value} {f : List Nat} (h : RdVs w d v f) (hs : Same2 A B w w') (hf : ∀ b ∈ f, b ≠ A ∧ b ≠ B) : RdVs w' d v f := h.same d (fun b hb => hs b (h.lt d b hb) (hf b hb).1 (hf b hb).2)
end Go.Proofs.Yticlgpkjdmcnaaa
end
