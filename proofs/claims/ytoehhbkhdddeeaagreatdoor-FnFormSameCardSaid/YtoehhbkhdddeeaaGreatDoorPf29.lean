/- Parts of the proof: PutE. -/
import Derived.Test.YtoehhbkhdddeeaaGreatDoorPf25
import Derived.Test.YtoehhbkhdddeeaaGreatDoorPf15
section
namespace Go.Proofs.YtoehhbkhdddeeaaGreatDoor
open Go Go.RowKit
set_option linter.unusedVariables false
set_option linter.unusedSimpArgs false
set_option maxRecDepth 100000
set_option maxHeartbeats 16000000
/-- Small. -/
theorem Atm.wtV_eq (y : Atm) : wtV y.cd = wtV y.a.cd + (wtV y.b.cd + (y.nums.length + wtR (y.nums.map Tm.cd) + y.times.length)) := by
 simp only [Atm.cd, zR, zbW, zcW, zbj, wtR_ints]; omega
def Atm.tame (y : Atm) : Prop := y.a.size ≤ 1000 ∧ y.b.size ≤ 1000 ∧ y.nums.length ≤ 10 ∧ y.times.length ≤ 10 ∧ (∀ u ∈ y.nums, u.size ≤ 1000) ∧ wtV y.cd ≤ 5000
theorem zbl : ∀ (ts : List Tm), (∀ u ∈ ts, u.good) → wtR (ts.map Tm.cd) ≤ 300 * ts.length
 | [], _ => by simp [wtR]
 | t :: ts, h => by
  have h1 := zbl ts (fun u hu => h u (by simp [hu]))
  have h2 := zbu t _ (h t (by simp)).2
  have h3 := (h t (by simp)).1
  simp only [List.map_cons, zaw, List.length_cons]; omega
theorem Atm.few.tame {y : Atm} (h : y.few) : y.tame := ⟨by have := h.1.1; omega, by have := h.2.1.1; omega, by have := h.2.2.1; omega, by have := h.2.2.1; have := h.2.2.2.1; omega, fun u hu => by have := (h.2.2.2.2 u hu).1; omega, by
 have h1 := zbl y.nums h.2.2.2.2
 have h2 := h.2.2.1
 have h3 := h.2.2.2.1
 have h4 := h.1.2
 have h5 := h.2.1.2
 rw [Atm.wtV_eq]; omega⟩
theorem few_rest {y : Atm} (h : y.few) : wtV y.b.cd + (y.nums.length + wtR (y.nums.map Tm.cd) + y.times.length) ≤ 4000 := by
 have h1 := zbl y.nums h.2.2.2.2
 have h2 := h.2.2.1
 have h3 := h.2.2.2.1
 have h5 := h.2.1.2
 omega
/-- A drawn atom, as it reads. -/
def DrawnA (w : World) (e : Ending) (w' : World) : Prop := ∃ (y : Atm) (vs : List Value) (f : List Nat), y.tame ∧ e = .returned (.agg vs.toArray) ∧ RdVs w' y.cd vs f ∧ ∀ b ∈ f, w.heap.size ≤ b
/-- It reads, in blocks from lo on, and not in V. -/
def RdX (w : World) (lo V : Nat) (d : CD) (v : Value) : Prop := ∃ f, Rd w d v f ∧ ∀ b ∈ f, lo ≤ b ∧ b ≠ V
theorem RdX.same {w w' : World} {lo V : Nat} {d : CD} {v : Value} (h : RdX w lo V d v) (hs : ∀ b, b < w.heap.size → lo ≤ b → b ≠ V → w'.heap[b]? = w.heap[b]?) : RdX w' lo V d v := by
 obtain ⟨f, h1, h2⟩ := h
 exact ⟨f, h1.same d (fun b hb => hs b (h1.lt d b hb) (h2 b hb).1 (h2 b hb).2), h2⟩
theorem Own.rdX {w : World} {base e k lo V : Nat} {v : Value} {es : List (List CD)} {fp : List Nat} (h : Own w base e k v es fp) (hl : lo ≤ base) (hf : ∀ b ∈ fp, lo ≤ b ∧ b ≠ V) (hv : v.ownBlock ≠ some V) : RdX w lo V (.sl es) v := by
 obtain ⟨f, h1, h2⟩ := h.rd
 refine ⟨f, h1, fun b hb => ?_⟩
 rcases h2 with ⟨_, _, rfl⟩ | ⟨b', _, hb', rfl, _, h2, _⟩
 ·simp at hb
 ·rcases zdW.1 hb with rfl | hb
  ·exact ⟨by omega, fun e => hv (e ▸ hb')⟩
  ·exact hf b hb
theorem zcj {w : World} : ∀ (l : List Int) (vs : List Value) (f : List Nat), RdVs w (l.map zm).flatten vs f → vs = l.map (Value.int .i64) ∧ f = [] ∧ ∀ x ∈ l, I64 x
 | [], vs, f, h => by simp [RdVs] at h; simp [h]
 | x :: l, vs, f, h => by
  simp only [List.map_cons, List.flatten_cons] at h
  obtain ⟨us, us', g, g', rfl, rfl, h1, h2⟩ := h.split
  obtain ⟨h3, h4, h5⟩ := zcj l _ _ h2
  obtain ⟨v, rfl, hr⟩ := RdVs.one_inv h1
  obtain ⟨rfl, hi, rfl⟩ := zr hr
  refine ⟨by rw [h3]; rfl, by rw [h4]; rfl, fun y hy => ?_⟩
  rcases zdW.1 hy with rfl | hy
  ·exact hi
  ·exact h5 y hy
theorem zbd {w : World} : ∀ (l : List Int), (∀ x ∈ l, I64 x) → RdVs w (l.map zm).flatten (l.map (Value.int .i64)) []
 | [], _ => by simp [RdVs]
 | x :: l, h => by
  have h1 : RdVs w (zm x) [Value.int .i64 x] [] := RdVs.single (by simp only [Rd]; exact ⟨trivial, h x (by simp), trivial⟩)
  exact h1.app (zbd l fun y hy => h y (by simp [hy]))
theorem Own.ints {w : World} {B : Nat} {v : Value} {l : List Int} (h : Own w B 3 1 v (l.map zm) []) : w.ownsRow B 3 1 v l.length (l.map (Value.int .i64)) ∧ ∀ x ∈ l, I64 x := by
 obtain ⟨xs, h1, h2, _, _⟩ := h
 obtain ⟨rfl, _, h3⟩ := zcj _ _ _ h2
 exact ⟨by simpa using h1, h3⟩
/-- A store into a row of numbers of the call's own. -/
theorem iset {w : World} {B g c : Nat} {l : List Int} (h : Own w B 3 1 (.slice (some ⟨g, 0, none⟩) l.length c) (l.map zm) []) (k : Nat) {x : Int} (hx : I64 x) :
  Own (w.setCell ⟨g, k, none⟩ (.int .i64 x)) B 3 1 (.slice (some ⟨g, 0, none⟩) l.length c) ((l.set k x).map zm) [] := by
 obtain ⟨h1, h2⟩ := h.ints
 obtain ⟨h3, h4⟩ := h1.stored k (.int .i64 x)
 exact ⟨_, by rw [zdX, List.length_set, List.map_set]; exact h3, zbd _ (fun y hy => by
  rcases List.mem_or_eq_of_mem_set hy with hy | rfl
  ·exact h2 y hy
  ·exact hx), by simp only [List.mem_map]; rintro x ⟨y, _, rfl⟩; rfl, by simp⟩
theorem Own.ints_form {w : World} {B n c : Nat} {a : Option Addr} {l : List Int} (h : Own w B 3 1 (.slice a n c) (l.map zm) []) (hl : 0 < l.length) : ∃ g, a = some ⟨g, 0, none⟩ ∧ B ≤ g ∧ g < w.heap.size ∧ w.cell? ⟨g, 0, none⟩ = some (.int .i64 (l[0])) ∧ w.frozen? ⟨g, 0, none⟩ = false := by
 obtain ⟨h1, _⟩ := h.ints
 have hc := h1
 rcases h1.2 with ⟨_, h0⟩ | ⟨g, c', cur, he, hbg, hg, hnc, hcm, hcs, htk⟩
 ·omega
 ·simp only [Value.slice.injEq] at he
  obtain ⟨rfl, rfl, rfl⟩ := he
  have h2 := hc.cells (g := g) rfl 0 (.int .i64 l[0]) (by simp [hl])
  rw [Addr.add_lit] at h2
  exact ⟨g, rfl, hbg, (hc.lt g rfl).2, by simpa using h2, hc.frozenAt 0⟩
/-- An atom in memory, as it reads. -/
structure AtL (w : World) (lo V : Nat) (y : Atm) (a2 : Option Addr) (c2 : Nat) (a4 : Option Addr) (c4 : Nat) (a5 : Option Addr) (c5 : Nat) (a6 : Option Addr) (c6 : Nat) : Prop where
 k : I64 y.kind
 na : y.a.name.size ≤ maxLen
 ra : RdX w lo V (.sl (y.a.kids.map Tm.cd)) (.slice a2 y.a.kids.length c2)
 nb : y.b.name.size ≤ maxLen
 rb : RdX w lo V (.sl (y.b.kids.map Tm.cd)) (.slice a4 y.b.kids.length c4)
 r5 : RdX w lo V (.sl (y.nums.map Tm.cd)) (.slice a5 y.nums.length c5)
 r6 : RdX w lo V (.sl (y.times.map zm)) (.slice a6 y.times.length c6)
 bd : I64 y.bound
theorem AtL.rd {w : World} {lo V : Nat} {y : Atm} {a2 : Option Addr} {c2 : Nat} {a4 : Option Addr} {c4 : Nat} {a5 : Option Addr} {c5 : Nat} {a6 : Option Addr} {c6 : Nat} (h : AtL w lo V y a2 c2 a4 c4 a5 c5 a6 c6) : ∃ f, RdVs w y.cd [.int .i64 y.kind, .string y.a.name, .slice a2 y.a.kids.length c2, .string y.b.name, .slice a4 y.b.kids.length c4, .slice a5 y.nums.length c5, .slice a6 y.times.length c6, .int .i64 y.bound, .bool y.strict] f ∧ ∀ b ∈ f, lo ≤ b := by
 obtain ⟨f2, r2, h2⟩ := h.ra
 obtain ⟨f4, r4, h4⟩ := h.rb
 obtain ⟨f5, r5, h5⟩ := h.r5
 obtain ⟨f6, r6, h6⟩ := h.r6
 refine ⟨_, Atm.close h.k h.na r2 h.nb r4 r5 r6 h.bd, fun b hb => ?_⟩
 rcases zdS.1 hb with h1 | h1
 ·exact (h2 b h1).1
 rcases zdS.1 h1 with h1 | h1
 ·exact (h4 b h1).1
 rcases zdS.1 h1 with h1 | h1
 ·exact (h5 b h1).1
 ·exact (h6 b h1).1
theorem AtL.same {w w' : World} {lo V : Nat} {y : Atm} {a2 : Option Addr} {c2 : Nat} {a4 : Option Addr} {c4 : Nat} {a5 : Option Addr} {c5 : Nat} {a6 : Option Addr} {c6 : Nat} (h : AtL w lo V y a2 c2 a4 c4 a5 c5 a6 c6) (hs : ∀ b, b < w.heap.size → lo ≤ b → b ≠ V → w'.heap[b]? = w.heap[b]?) : AtL w' lo V y a2 c2 a4 c4 a5 c5 a6 c6 :=
 ⟨h.k, h.na, h.ra.same hs, h.nb, h.rb.same hs, h.r5.same hs, h.r6.same hs, h.bd⟩
theorem AtL.below {w w' : World} {lo V : Nat} {y : Atm} {a2 : Option Addr} {c2 : Nat} {a4 : Option Addr} {c4 : Nat} {a5 : Option Addr} {c5 : Nat} {a6 : Option Addr} {c6 : Nat} (h : AtL w lo V y a2 c2 a4 c4 a5 c5 a6 c6) (hb : Below w.heap.size w w') : AtL w' lo V y a2 c2 a4 c4 a5 c5 a6 c6 := h.same fun b h1 _ _ => hb.block b h1
theorem AtL.only {w w' : World} {rb lo V : Nat} {y : Atm} {a2 : Option Addr} {c2 : Nat} {a4 : Option Addr} {c4 : Nat} {a5 : Option Addr} {c5 : Nat} {a6 : Option Addr} {c6 : Nat} (h : AtL w lo V y a2 c2 a4 c4 a5 c5 a6 c6) (ho : Only [rb] w w') (hr : rb < lo) : AtL w' lo V y a2 c2 a4 c4 a5 c5 a6 c6 := h.same fun b h1 h2 _ => ho.block b h1 (by simp; omega)
theorem AtL.setV {w : World} {lo V : Nat} {y : Atm} {a2 : Option Addr} {c2 : Nat} {a4 : Option Addr} {c4 : Nat} {a5 : Option Addr} {c5 : Nat} {a6 : Option Addr} {c6 : Nat} (h : AtL w lo V y a2 c2 a4 c4 a5 c5 a6 c6) (ups : List (Nat × Value)) : AtL (zi V ups w) lo V y a2 c2 a4 c4 a5 c5 a6 c6 := by
 have hL := Loc.sets (b := V) (lo := V) (hi := V + 1) (Nat.le_refl _) (by omega) ups (Loc.refl _ _ w)
 exact h.same fun b h1 h2 h3 => hL.block b h1 (by omega)
theorem AtL.setLow {w : World} {b lo V : Nat} {y : Atm} {a2 : Option Addr} {c2 : Nat} {a4 : Option Addr} {c4 : Nat} {a5 : Option Addr} {c5 : Nat} {a6 : Option Addr} {c6 : Nat} (h : AtL w lo V y a2 c2 a4 c4 a5 c5 a6 c6) (ups : List (Nat × Value)) (hb : b < lo) : AtL (zi b ups w) lo V y a2 c2 a4 c4 a5 c5 a6 c6 := by
 have hL := Loc.sets (b := b) (lo := b) (hi := b + 1) (Nat.le_refl _) (by omega) ups (Loc.refl _ _ w)
 exact h.same fun q h1 h2 h3 => hL.block q h1 (by omega)
theorem AtL.kind {w : World} {lo V : Nat} {y : Atm} {a2 : Option Addr} {c2 : Nat} {a4 : Option Addr} {c4 : Nat} {a5 : Option Addr} {c5 : Nat} {a6 : Option Addr} {c6 : Nat} (h : AtL w lo V y a2 c2 a4 c4 a5 c5 a6 c6) {x : Int} (hx : I64 x) : AtL w lo V { y with kind := x } a2 c2 a4 c4 a5 c5 a6 c6 := ⟨hx, h.na, h.ra, h.nb, h.rb, h.r5, h.r6, h.bd⟩
theorem AtL.bound {w : World} {lo V : Nat} {y : Atm} {a2 : Option Addr} {c2 : Nat} {a4 : Option Addr} {c4 : Nat} {a5 : Option Addr} {c5 : Nat} {a6 : Option Addr} {c6 : Nat} (h : AtL w lo V y a2 c2 a4 c4 a5 c5 a6 c6) {x : Int} (hx : I64 x) : AtL w lo V { y with bound := x } a2 c2 a4 c4 a5 c5 a6 c6 := ⟨h.k, h.na, h.ra, h.nb, h.rb, h.r5, h.r6, hx⟩
theorem AtL.termA {w : World} {lo V : Nat} {y : Atm} {a2 : Option Addr} {c2 : Nat} {a4 : Option Addr} {c4 : Nat} {a5 : Option Addr} {c5 : Nat} {a6 : Option Addr} {c6 : Nat} (h : AtL w lo V y a2 c2 a4 c4 a5 c5 a6 c6) {t : Tm} {ka : Option Addr} {kc : Nat} (hn : t.name.size ≤ maxLen) (hr : RdX w lo V (.sl (t.kids.map Tm.cd)) (.slice ka t.kids.length kc)) : AtL w lo V { y with a := t } ka kc a4 c4 a5 c5 a6 c6 := ⟨h.k, hn, hr, h.nb, h.rb, h.r5, h.r6, h.bd⟩
/-- Its rows are not V. -/
def AtOff (V : Nat) (y : Atm) (fA fB : List Nat) (a5 : Option Addr) (c5 : Nat) (a6 : Option Addr) (c6 : Nat) (fn : List Nat) : Prop := (Value.slice a5 y.nums.length c5).ownBlock ≠ some V ∧ (Value.slice a6 y.times.length c6).ownBlock ≠ some V ∧ ∀ b, b ∈ fA ∨ b ∈ fB ∨ b ∈ fn → b ≠ V
theorem AtOx.off {w : World} {lo : Nat} {y : Atm} {a2 : Option Addr} {c2 : Nat} {fA : List Nat} {a4 : Option Addr} {c4 : Nat} {fB : List Nat} {a5 : Option Addr} {c5 : Nat} {a6 : Option Addr} {c6 : Nat} {fn : List Nat} (h : AtOx w lo y a2 c2 fA a4 c4 fB a5 c5 a6 c6 fn) : AtOff w.heap.size y fA fB a5 c5 a6 c6 fn :=
 ⟨fun e => by have := (h.o5.block e).2; omega, fun e => by have := (h.o6.block e).2; omega, fun b hb => by
  rcases hb with h1 | h1 | h1
  ·have := h.ra.lt _ b h1; omega
  ·have := h.rb.lt _ b h1; omega
  ·have := h.o5.lt b h1; omega⟩
theorem AtOx.toL {w : World} {lo V : Nat} {y : Atm} {a2 : Option Addr} {c2 : Nat} {fA : List Nat} {a4 : Option Addr} {c4 : Nat} {fB : List Nat} {a5 : Option Addr} {c5 : Nat} {a6 : Option Addr} {c6 : Nat} {fn : List Nat} (h : AtOx w lo y a2 c2 fA a4 c4 fB a5 c5 a6 c6 fn) (hf : AtOff V y fA fB a5 c5 a6 c6 fn) : AtL w lo V y a2 c2 a4 c4 a5 c5 a6 c6 :=
 ⟨h.k, h.na, ⟨fA, h.ra, fun b hb => ⟨h.fr b (.inl hb), hf.2.2 b (.inl hb)⟩⟩, h.nb, ⟨fB, h.rb, fun b hb => ⟨h.fr b (.inr (.inl hb)), hf.2.2 b (.inr (.inl hb))⟩⟩, h.o5.rdX (Nat.le_refl _) (fun b hb => ⟨h.fr b (.inr (.inr hb)), hf.2.2 b (.inr (.inr hb))⟩) hf.1, h.o6.rdX (Nat.le_refl _) (by simp) hf.2.1, h.bd⟩
/-- Behind a store into the row of times. -/
theorem AtOx.setTime {w : World} {lo V g : Nat} {y : Atm} {a2 : Option Addr} {c2 : Nat} {fA : List Nat} {a4 : Option Addr} {c4 : Nat} {fB : List Nat} {a5 : Option Addr} {c5 : Nat} {c6 : Nat} {fn : List Nat} (h : AtOx w lo y a2 c2 fA a4 c4 fB a5 c5 (some ⟨g, 0, none⟩) c6 fn) (hf : AtOff V y fA fB a5 c5 (some ⟨g, 0, none⟩) c6 fn) {x : Int} (hx : I64 x) : AtL (w.setCell ⟨g, 0, none⟩ (.int .i64 x)) lo V { y with times := y.times.set 0 x } a2 c2 a4 c4 a5 c5 (some ⟨g, 0, none⟩) c6 := by
 have hg : (Value.slice (some ⟨g, 0, none⟩) y.times.length c6).ownBlock = some g := rfl
 have hk : ∀ b, b ≠ g → (w.setCell ⟨g, 0, none⟩ (.int .i64 x)).heap[b]? = w.heap[b]? := fun b hb => Below.heap_setCell _ _ _ _ (fun e : b = g => hb e)
 have h0 := (h.toL hf)
 have hd6 := h.d6 g hg
 have hd5 : (Value.slice a5 y.nums.length c5).ownBlock ≠ some g := fun e => h.d56 g e hg
 refine ⟨h.k, h.na, ⟨fA, h.ra.same _ (fun b hb => hk b (fun e => hd6.1 (e ▸ hb))), fun b hb => ⟨h.fr b (.inl hb), hf.2.2 b (.inl hb)⟩⟩, h.nb, ⟨fB, h.rb.same _ (fun b hb => hk b (fun e => hd6.2.1 (e ▸ hb))), fun b hb => ⟨h.fr b (.inr (.inl hb)), hf.2.2 b (.inr (.inl hb))⟩⟩, (h.o5.set_ne hd6.2.2 hd5).rdX (Nat.le_refl _) (fun b hb => ⟨h.fr b (.inr (.inr hb)), hf.2.2 b (.inr (.inr hb))⟩) hf.1, ?_, h.bd⟩
 have hI := iset h.o6 0 hx
 show RdX _ lo V (.sl ((y.times.set 0 x).map zm)) (.slice _ (y.times.set 0 x).length c6)
 rw [List.length_set]
 exact hI.rdX (Nat.le_refl _) (by simp) hf.2.1
/-- Behind an append to the row of terms. -/
theorem AtOx.more {w w' : World} {lo V : Nat} {y : Atm} {t : Tm} {v' : Value} {fn' : List Nat} {a2 : Option Addr} {c2 : Nat} {fA : List Nat} {a4 : Option Addr} {c4 : Nat} {fB : List Nat} {a5 : Option Addr} {c5 : Nat} {a6 : Option Addr} {c6 : Nat} {fn : List Nat} (h : AtOx w lo y a2 c2 fA a4 c4 fB a5 c5 a6 c6 fn) (hf : AtOff V y fA fB a5 c5 a6 c6 fn) (hV : V < w.heap.size)
  (hg : w.grownBy w' (Value.slice a5 y.nums.length c5).ownBlock) (ho : Own w' lo 25 2 v' ((y.nums ++ [t]).map Tm.cd) fn') (hv : ∀ b, v'.ownBlock = some b → (Value.slice a5 y.nums.length c5).ownBlock = some b ∨ w.heap.size ≤ b) (hn : ∀ b ∈ fn', lo ≤ b ∧ b ≠ V) :
  ∃ e5 g5, v' = .slice e5 (y.nums ++ [t]).length g5 ∧ AtL w' lo V { y with nums := y.nums ++ [t] } a2 c2 a4 c4 e5 g5 a6 c6 := by
 obtain ⟨e5, g5, rfl, _, _⟩ := ho.form
 rw [zdX] at ho hv
 refine ⟨e5, g5, by rw [zdX], ?_⟩
 have hb : ∀ b, b < w.heap.size → (Value.slice a5 y.nums.length c5).ownBlock ≠ some b → w'.heap[b]? = w.heap[b]? := fun b h1 h2 => hg.block b h1 (fun e => h2 e.symm)
 refine ⟨h.k, h.na, ⟨fA, h.ra.same _ (fun b hm => hb b (h.ra.lt _ b hm) (fun e => (h.d5 b e).1 hm)), fun b hm => ⟨h.fr b (.inl hm), hf.2.2 b (.inl hm)⟩⟩, h.nb, ⟨fB, h.rb.same _ (fun b hm => hb b (h.rb.lt _ b hm) (fun e => (h.d5 b e).2 hm)), fun b hm => ⟨h.fr b (.inr (.inl hm)), hf.2.2 b (.inr (.inl hm))⟩⟩, ho.rdX (Nat.le_refl _) hn (fun e => ?_), ?_, h.bd⟩
 ·rcases hv V e with h1 | h1
  ·exact hf.1 h1
  ·omega
 ·exact (h.o6.same (w' := w') (fun b hm => by simp at hm) (fun b hm => hb b (h.o6.block hm).2 (fun e => h.d56 b e hm))).rdX (Nat.le_refl _) (by simp) hf.2.1
theorem Lst.put {u : World} {rb b : Nat} {vs : List Value} (h : Lst rb vs b u) {k : Nat} (hk : k < vs.length) (v : Value) : Lst rb (vs.set k v) b (u.setCell ⟨b, k, none⟩ v) := by
 obtain ⟨h1, h2, h3, h4⟩ := h
 refine ⟨h1, by simpa [World.setCell] using h2, fun j x hx => ?_, fun j => by simp [go_sem, h4 j]⟩
 by_cases e : j = k
 ·subst e
  rw [List.getElem?_set_self hk] at hx
  obtain rfl := Option.some.inj hx
  exact World.cell?_setCell_same u ⟨b, j, none⟩ v (h3 j _ (List.getElem?_eq_getElem hk))
 ·rw [List.getElem?_set_ne (fun h => e h.symm)] at hx
  exact (World.cell?_setCell_other _ _ _ _ (by intro h; simp only [Addr.mk.injEq] at h; omega)).trans (h3 j x hx)
end Go.Proofs.YtoehhbkhdddeeaaGreatDoor
end
