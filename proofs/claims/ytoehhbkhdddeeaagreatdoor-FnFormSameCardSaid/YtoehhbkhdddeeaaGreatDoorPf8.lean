/- Parts of the proof: Mark ExLib ExTo Wt. -/
import Derived.Test.YtoehhbkhdddeeaaGreatDoorPf1
import Derived.Lib.QuietBelow
import Derived.Test.YtoehhbkhdddeeaaGreatDoorPf4
import Derived.Test.YtoehhbkhdddeeaaGreatDoorPf5
import Derived.Deep.Cut
section
namespace Go.Proofs.YtoehhbkhdddeeaaGreatDoor
open Go Go.RowKit
set_option linter.unusedVariables false
set_option linter.unusedSimpArgs false
set_option maxRecDepth 100000
set_option maxHeartbeats 16000000
/-- Cells in a row, read. -/
def RdFlat (w : World) (b off : Nat) (ds : List CD) (f : List Nat) : Prop := ∃ vs, CellsAt w b off vs ∧ RdVs w ds vs f
theorem RdFlat.head {w : World} {b off : Nat} {d : CD} {ds : List CD} {f : List Nat} (h : RdFlat w b off (d :: ds) f) : ∃ v f1 f2, f = f1 ++ f2 ∧ w.cell? ⟨b, off, none⟩ = some v ∧ Rd w d v f1 ∧ RdFlat w b (off + 1) ds f2 := by
 obtain ⟨vs, hc, h⟩ := h
 simp only [RdVs] at h
 obtain ⟨v, vs', f1, f2, rfl, rfl, hd, hr⟩ := h
 exact ⟨v, f1, f2, rfl, hc 0 v rfl, hd, vs', fun j u hj => by have := hc (j + 1) u (by simpa using hj); rw [show off + 1 + j = off + (j + 1) from by omega]; exact this, hr⟩
theorem RdFlat.snoc {w : World} {b off : Nat} {ds : List CD} {d : CD} {v : Value} {f g : List Nat} (h : RdFlat w b off ds f) (hc : w.cell? ⟨b, off + ds.length, none⟩ = some v) (hd : Rd w d v g) : RdFlat w b off (ds ++ [d]) (f ++ g) := by
 obtain ⟨vs, h1, h2⟩ := h
 refine ⟨vs ++ [v], fun j u hj => ?_, h2.app (RdVs.single hd)⟩
 have hl := h2.length
 by_cases hjl : j < vs.length
 ·rw [List.getElem?_append_left hjl] at hj; exact h1 j u hj
 ·rw [List.getElem?_append_right (by omega)] at hj
  have : j - vs.length = 0 := by
   rcases Nat.eq_zero_or_pos (j - vs.length) with h | h
   ·exact h
   ·rw [List.getElem?_eq_none (by simp; omega)] at hj; simp at hj
  rw [this] at hj
  simp at hj
  subst hj
  rw [show j = ds.length from by omega]; exact hc
theorem RdFlat.frame {w w' : World} {b off : Nat} {ds : List CD} {f : List Nat} (h : RdFlat w b off ds f) (hc : ∀ j, off ≤ j → j < off + ds.length → w'.cell? ⟨b, j, none⟩ = w.cell? ⟨b, j, none⟩) (hs : SameOn f w w') : RdFlat w' b off ds f := by
 obtain ⟨vs, h1, h2⟩ := h
 refine ⟨vs, fun j u hj => ?_, h2.same _ hs⟩
 have : j < vs.length := (List.getElem?_eq_some_iff.1 hj).1
 rw [hc (off + j) (by omega) (by rw [← h2.length]; omega)]; exact h1 j u hj
theorem RdFlat.set {w : World} {b off o : Nat} {ds : List CD} {f : List Nat} {u : Value} (h : RdFlat w b off ds f) (ho : o < off ∨ off + ds.length ≤ o) (hb : b ∉ f) : RdFlat (w.setCell ⟨b, o, none⟩ u) b off ds f :=
 h.frame (fun j h1 h2 => World.cell?_setCell_other _ _ _ _ (by intro e; simp only [Addr.mk.injEq] at e; omega)) (zy fun x hx e => hb (by subst e; exact hx))
theorem RdFlat.same {w w' : World} {b off : Nat} {ds : List CD} {f : List Nat} (h : RdFlat w b off ds f) (hb : w'.heap[b]? = w.heap[b]?) (hs : SameOn f w w') : RdFlat w' b off ds f :=
 h.frame (fun _ _ _ => World.cell?_of_block (w := w) hb) hs
/-- From w to w' none but the blocks of fp have turned. -/
structure Only (fp : List Nat) (w w' : World) : Prop where
 os : w'.os = w.os
 tape : w'.tape = w.tape
 output : w'.output = w.output
 size : w.heap.size ≤ w'.heap.size
 block : ∀ b, b < w.heap.size → b ∉ fp → w'.heap[b]? = w.heap[b]?
theorem Only.refl (fp : List Nat) (w : World) : Only fp w w := ⟨rfl, rfl, rfl, Nat.le_refl _, fun _ _ _ => rfl⟩
theorem Only.trans {fp : List Nat} {a b c : World} (h : Only fp a b) (h' : Only fp b c) : Only fp a c :=
 ⟨h'.os.trans h.os, h'.tape.trans h.tape, h'.output.trans h.output, Nat.le_trans h.size h'.size, fun k hk hn => (h'.block k (zdQ hk h.size) hn).trans (h.block k hk hn)⟩
theorem Only.mono {fp fq : List Nat} {w w' : World} (h : Only fp w w') (hs : ∀ b ∈ fp, b ∈ fq) : Only fq w w' := ⟨h.os, h.tape, h.output, h.size, fun b hb hn => h.block b hb fun hm => hn (hs b hm)⟩
theorem Only.below {fp : List Nat} {w w' : World} (h : Below w.heap.size w w') : Only fp w w' := ⟨h.os, h.tape, h.output, h.size, fun b hb _ => h.block b hb⟩
theorem Only.set {fp : List Nat} {w : World} {a : Addr} {u : Value} (h : a.block ∈ fp) : Only fp w (w.setCell a u) :=
 ⟨rfl, rfl, rfl, by simp, fun b _ hn => Below.heap_setCell _ _ _ _ (fun e => hn (e ▸ h))⟩
theorem Only.toBelow {fp : List Nat} {w w' : World} {B : Nat} (h : Only fp w w') (hB : B ≤ w.heap.size) (hf : ∀ b ∈ fp, B ≤ b) : Below B w w' :=
 ⟨h.os, h.tape, h.output, h.size, fun b hb => h.block b (by omega) fun hm => by have := hf b hm; omega⟩
theorem Only.same {fp fq : List Nat} {w w' : World} (h : Only fp w w') (hl : ∀ b ∈ fq, b < w.heap.size) (hd : ∀ b ∈ fq, b ∉ fp) : SameOn fq w w' := fun b hb => h.block b (hl b hb) (hd b hb)
/-- Rows of cells that may be written, whatever they hold. -/
def Free (w : World) (fp : List Nat) : Prop := ∀ b ∈ fp, ∃ c e, w.heap[b]? = some (.cells c e (0, 0))
theorem Fresh.free {lo : Nat} {w : World} {fp : List Nat} (h : Fresh lo w fp) : Free w fp := fun b hb => (h.2 b hb).2
theorem Free.same {w w' : World} {fp : List Nat} (h : Free w fp) (hs : SameOn fp w w') : Free w' fp := fun b hb => by obtain ⟨c, e, h1⟩ := h b hb; exact ⟨c, e, (hs b hb).trans h1⟩
theorem Free.frozen {w : World} {fp : List Nat} (h : Free w fp) {b j : Nat} (hb : b ∈ fp) : w.frozen? ⟨b, j, none⟩ = false := by
 obtain ⟨c, e, h1⟩ := h b hb; unfold World.frozen?; rw [h1]; simp
theorem Free.lt {w : World} {fp : List Nat} (h : Free w fp) : ∀ b ∈ fp, b < w.heap.size := fun b hb => by obtain ⟨c, e, h1⟩ := h b hb; exact (Array.getElem?_eq_some_iff.1 h1).1
theorem Free.set {w : World} {fp : List Nat} {a : Addr} {u : Value} (h : Free w fp) (ha : a.spot = none) : Free (w.setCell a u) fp := fun b hb => by
 obtain ⟨c, e, h1⟩ := h b hb
 by_cases hab : b = a.block
 ·subst hab
  refine ⟨c.setIfInBounds a.off u, e, ?_⟩
  simp [World.setCell, Array.getElem?_modify, h1, ha]
 ·exact ⟨c, e, (Below.heap_setCell _ _ _ _ hab).trans h1⟩
/-- In the midst of marking a row: what is done, what is to come. -/
structure MkSt (w : World) (b off : Nat) (done todo : List CD) (f1 f3 : List Nat) : Prop where
 hdone : RdFlat w b off done f1
 htodo : RdFlat w b (off + done.length) todo f3
 free : Free w (b :: (f1 ++ f3))
 nd : (b :: (f1 ++ f3)).Nodup
/-- One slice, marked by a call. -/
theorem MkSt.slice {w w' : World} {b off : Nat} {done ds : List CD} {es es' : List (List CD)} {f1 fe f2 : List Nat} {v : Value} (h : MkSt w b off done (.sl es :: ds) f1 (fe ++ f2)) (hc : w.cell? ⟨b, off + done.length, none⟩ = some v)
  (ht : RdFlat w b (off + done.length + 1) ds f2) (ho : Only fe w w') (hr : Rd w' (.sl es') v fe) (hf : Free w' fe) : MkSt w' b off (done ++ [.sl es']) ds (f1 ++ fe) f2 := by
 have hn := List.nodup_cons.1 h.nd
 have hn2 := List.nodup_append.1 hn.2
 have hn3 := List.nodup_append.1 hn2.2.1
 have hbl : b < w.heap.size := h.free.lt b (by simp)
 have hbe : b ∉ fe := fun hm => hn.1 (List.mem_append_right _ (List.mem_append_left _ hm))
 have hbb := ho.block b hbl hbe
 have s1 : SameOn f1 w w' := ho.same (fun x hx => h.free.lt x (by simp [hx])) fun x hx hm => hn2.2.2 x hx x (List.mem_append_left _ hm) rfl
 have s2 : SameOn f2 w w' := ho.same (fun x hx => h.free.lt x (by simp [hx])) fun x hx hm => hn3.2.2 x hm x hx rfl
 refine ⟨(h.hdone.same hbb s1).snoc (by rw [World.cell?_of_block (w := w) hbb]; exact hc) hr, ?_, ?_, by rw [List.append_assoc]; exact h.nd⟩
 ·rw [zdU, List.length_singleton, ← Nat.add_assoc]
  exact ht.same hbb s2
 ·intro x hx
  rcases zdW.1 hx with rfl | hx
  ·obtain ⟨c, e, h1⟩ := h.free x (by simp); exact ⟨c, e, hbb.trans h1⟩
  ·rcases zdS.1 hx with hx | hx
   ·rcases zdS.1 hx with hx | hx
    ·obtain ⟨c, e, h1⟩ := h.free x (by simp [hx]); exact ⟨c, e, (s1 x hx).trans h1⟩
    ·exact hf x hx
   ·obtain ⟨c, e, h1⟩ := h.free x (by simp [hx]); exact ⟨c, e, (s2 x hx).trans h1⟩
theorem MkSt.below {w w' : World} {b off : Nat} {done todo : List CD} {f1 f3 : List Nat} (h : MkSt w b off done todo f1 f3) (hb : Below w.heap.size w w') : MkSt w' b off done todo f1 f3 := by
 have hl := h.free.lt
 have s : SameOn (b :: (f1 ++ f3)) w w' := zQ hb hl
 exact ⟨h.hdone.same (s b (by simp)) (s.mono fun x hx => by simp [hx]), h.htodo.same (s b (by simp)) (s.mono fun x hx => by simp [hx]), h.free.same s, h.nd⟩
theorem MkSt.head {w : World} {b off : Nat} {done ds : List CD} {es : List (List CD)} {f1 f3 : List Nat} (h : MkSt w b off done (.sl es :: ds) f1 f3) :
  ∃ v fe f2, f3 = fe ++ f2 ∧ w.cell? ⟨b, off + done.length, none⟩ = some v ∧ Rd w (.sl es) v fe ∧ RdFlat w b (off + done.length + 1) ds f2 ∧ Free w fe ∧ fe.Nodup := by
 obtain ⟨v, fe, f2, rfl, hc, hr, ht⟩ := h.htodo.head
 have hn := List.nodup_cons.1 h.nd
 have hn2 := List.nodup_append.1 hn.2
 exact ⟨v, fe, f2, rfl, hc, hr, ht, fun x hx => h.free x (by simp [hx]), (List.nodup_append.1 hn2.2.1).1⟩
mutual
def wtC : CD → Nat
 | .str s => s.size
 | .sl es => es.length + wtR es
 | _ => 0
def wtR : List (List CD) → Nat
 | [] => 0
 | e :: es => wtV e + wtR es
def wtV : List CD → Nat
 | [] => 0
 | d :: ds => wtC d + wtV ds
end
mutual
def ndC : CD → Nat
 | .sl es => 1 + ndR es
 | _ => 1
def ndR : List (List CD) → Nat
 | [] => 0
 | e :: es => 1 + ndV e + ndR es
def ndV : List CD → Nat
 | [] => 0
 | d :: ds => ndC d + ndV ds
end
theorem zR : ∀ (a b : List CD), wtV (a ++ b) = wtV a + wtV b
 | [], b => by simp [wtV]
 | d :: ds, b => by simp only [List.cons_append, wtV, zR ds b]; omega
theorem zah : ∀ (a b : List (List CD)), wtR (a ++ b) = wtR a + wtR b
 | [], b => by simp [wtR]
 | d :: ds, b => by simp only [List.cons_append, wtR, zah ds b]; omega
theorem ndR_mem : ∀ {es : List (List CD)} {e : List CD}, e ∈ es → ndV e < ndR es
 | [], e, h => by simp at h
 | d :: ds, e, h => by
  simp only [ndR]
  rcases zdW.1 h with rfl | h
  ·omega
  ·have := ndR_mem h; omega
theorem ndV_sl {es : List (List CD)} {ds : List CD} (h : CD.sl es ∈ ds) : ndR es < ndV ds := by
 induction ds with
 | nil => simp at h
 | cons d ds ih =>
  simp only [ndV]
  rcases zdW.1 h with rfl | h
  ·simp only [ndC]; omega
  ·have := ih h; omega
theorem zW {α : Type} (f : α → List CD) (ts : List α) (k : Nat) (h : k < ts.length) : wtR ((ts.map f).take (k + 1)) = wtR ((ts.map f).take k) + wtV (f ts[k]) := by
 rw [zdR (by simpa using h), zah]; simp [wtR]
theorem zG {α : Type} (f : α → List CD) (ts : List α) (k : Nat) : wtR ((ts.map f).take k) ≤ wtR (ts.map f) := by
 have := zah ((ts.map f).take k) ((ts.map f).drop k); rw [List.take_append_drop] at this; omega
theorem wtR_ints (ns : List Int) : wtR (ns.map zm) = 0 := by induction ns with
 | nil => rfl
 | cons n ns ih => simp only [List.map_cons, wtR, ih, zm, wtV, wtC]
theorem zbW (n : Int) : wtV [.int n] = 0 := rfl
theorem zbj (n : Bool) : wtV [.bool n] = 0 := rfl
theorem zcW {α : Type} (f : α → List CD) (xs : List α) : wtV [.sl (xs.map f)] = xs.length + wtR (xs.map f) := by simp [wtV, wtC]
theorem zf {w1 w2 : World} {b : Nat} {cs : Array Value} (h : ∀ j, w1.cell? ⟨b, j, none⟩ = cs[j]?) (hl : b < w1.heap.size) (hb : Below w1.heap.size w1 w2) : ∀ j, w2.cell? ⟨b, j, none⟩ = cs[j]? :=
 fun j => (hb.cell (p := ⟨b, j, none⟩) hl).trans (h j)
theorem Fm.kid_nd {x k : Fm} (h : k ∈ x.kids) : ndV k.cd < ndV x.cd := by
 have h1 := ndR_mem (List.mem_map_of_mem (f := Fm.cd) h)
 have h2 : ndR (x.kids.map Fm.cd) < ndV x.cd := ndV_sl (by rw [Fm.cd_eq]; simp)
 omega
end Go.Proofs.YtoehhbkhdddeeaaGreatDoor
end
namespace Go.Proofs.YtoehhbkhdddeeaaGreatDoor
open Go Go.RowKit
set_option linter.unusedVariables false
set_option linter.unusedSimpArgs false
set_option maxHeartbeats 800000
theorem nofp_int {n : Int} : NoFp [.int n] := fun w vs f h => by obtain ⟨v, rfl, h'⟩ := RdVs.one_inv h; exact (zr h').2.2
def ToOut (d : CD) (w : World) (e : Ending) (w' : World) : Prop := ∃ kv fp, e = .returned kv ∧ Rd w' d kv fp ∧ Fresh w.heap.size w' fp ∧ Below w.heap.size w w'
def ToOutV (ds : List CD) (w : World) (e : Ending) (w' : World) : Prop := ∃ vs fp, e = .returned (.agg vs.toArray) ∧ RdVs w' ds vs fp ∧ Fresh w.heap.size w' fp ∧ Below w.heap.size w w'
theorem cells_set {w : World} {b : Nat} {cs : Array Value} (h : ∀ j, w.cell? ⟨b, j, none⟩ = cs[j]?) (i : Nat) (v : Value) (hi : i < cs.size := by simp) : ∀ j, (w.setCell ⟨b, i, none⟩ v).cell? ⟨b, j, none⟩ = (cs.setIfInBounds i v)[j]? := by
 intro j
 by_cases hij : i = j
 ·subst hij
  rw [World.cell?_setCell_same w _ v ((h i).trans (Array.getElem?_eq_getElem hi)), Array.getElem?_setIfInBounds]
  simp [hi]
 ·rw [World.cell?_setCell_other w _ _ v (by simp [hij]), h j, Array.getElem?_setIfInBounds]
  simp [hij]
theorem zbq {w : World} {b b' : Nat} {cs : Array Value} (h : ∀ j, w.cell? ⟨b, j, none⟩ = cs[j]?) (i : Nat) (v : Value) (hne : b' ≠ b) : ∀ j, (w.setCell ⟨b', i, none⟩ v).cell? ⟨b, j, none⟩ = cs[j]? :=
 fun j => (World.cell?_setCell_other w _ _ v (by simp [hne])).trans (h j)
theorem zbK {w1 w2 : World} {b : Nat} (h : ∀ j, w1.frozen? ⟨b, j, none⟩ = false) (hl : b < w1.heap.size) (hb : Below w1.heap.size w1 w2) : ∀ j, w2.frozen? ⟨b, j, none⟩ = false :=
 fun j => (hb.frozen (p := ⟨b, j, none⟩) hl).trans (h j)
theorem free_set {w : World} {b : Nat} (h : ∀ j, w.frozen? ⟨b, j, none⟩ = false) (a : Addr) (v : Value) : ∀ j, (w.setCell a v).frozen? ⟨b, j, none⟩ = false := fun j => by rw [World.frozen?_setCell]; exact h j
/-- From w to w' of what was there the blocks from lo to hi alone have turned. -/
structure Loc (lo hi : Nat) (w w' : World) : Prop where
 os : w'.os = w.os
 tape : w'.tape = w.tape
 output : w'.output = w.output
 size : w.heap.size ≤ w'.heap.size
 block : ∀ k, k < w.heap.size → (k < lo ∨ hi ≤ k) → w'.heap[k]? = w.heap[k]?
theorem Loc.refl (lo hi : Nat) (w : World) : Loc lo hi w w := ⟨rfl, rfl, rfl, Nat.le_refl _, fun _ _ _ => rfl⟩
theorem Loc.set {lo hi : Nat} {w w' : World} (h : Loc lo hi w w') {b i : Nat} {v : Value} (h1 : lo ≤ b) (h2 : b < hi) : Loc lo hi w (w'.setCell ⟨b, i, none⟩ v) :=
 ⟨h.os, h.tape, h.output, by simpa [World.setCell] using h.size, fun k hk hn => (Below.heap_setCell _ _ _ _ (by simp only; omega)).trans (h.block k hk hn)⟩
theorem Loc.below {lo hi : Nat} {w w1 w2 : World} (h : Loc lo hi w w1) (hb : Below w1.heap.size w1 w2) : Loc lo hi w w2 :=
 ⟨hb.os.trans h.os, hb.tape.trans h.tape, hb.output.trans h.output, Nat.le_trans h.size hb.size, fun k hk hn => (hb.block k (zdQ hk h.size)).trans (h.block k hk hn)⟩
theorem Loc.toBelow {lo hi : Nat} {w w1 : World} (h : Loc lo hi w w1) {B : Nat} (hB : B ≤ w.heap.size) (hl : B ≤ lo) : Below B w w1 :=
 ⟨h.os, h.tape, h.output, h.size, fun k hk => h.block k (by omega) (.inl (by omega))⟩
theorem Loc.same {lo hi : Nat} {w w1 w0 : World} (h : Loc lo hi w w1) {f : List Nat} (hf : Fresh hi w f) : SameOn f w w1 := fun b hb => h.block b (hf.lt b hb) (.inr (hf.2 b hb).1)
def zi (b : Nat) : List (Nat × Value) → World → World
 | [], w => w
 | u :: r, w => zi b r (w.setCell ⟨b, u.1, none⟩ u.2)
def zbL : List (Nat × Value) → List Value → List Value
 | [], l => l
 | u :: r, l => zbL r (l.set u.1 u.2)
theorem zaq {b : Nat} : ∀ (ups : List (Nat × Value)) {w : World} {l : List Value}, (∀ j, w.cell? ⟨b, j, none⟩ = (l.toArray)[j]?) → (∀ u ∈ ups, u.1 < l.length) → ∀ j, (zi b ups w).cell? ⟨b, j, none⟩ = ((zbL ups l).toArray)[j]?
 | [], _, _, h, _ => h
 | u :: r, w, l, h, hu => by
  have h1 := cells_set h u.1 u.2 (by simpa using hu u (List.mem_cons_self ..))
  rw [zdK] at h1
  exact zaq r h1 (fun x hx => by rw [List.length_set]; exact hu x (List.mem_cons_of_mem _ hx))
theorem zaA {b b' : Nat} {cs : Array Value} (hne : b' ≠ b) : ∀ (ups : List (Nat × Value)) {w : World}, (∀ j, w.cell? ⟨b, j, none⟩ = cs[j]?) → ∀ j, (zi b' ups w).cell? ⟨b, j, none⟩ = cs[j]?
 | [], _, h => h
 | u :: r, w, h => zaA hne r (zbq h u.1 u.2 hne)
theorem zbr {b b' : Nat} : ∀ (ups : List (Nat × Value)) {w : World}, (∀ j, w.frozen? ⟨b, j, none⟩ = false) → ∀ j, (zi b' ups w).frozen? ⟨b, j, none⟩ = false
 | [], _, h => h
 | u :: r, w, h => zbr r (free_set h _ _)
theorem Loc.sets {lo hi b : Nat} {w : World} (h1 : lo ≤ b) (h2 : b < hi) : ∀ (ups : List (Nat × Value)) {w' : World}, Loc lo hi w w' → Loc lo hi w (zi b ups w')
 | [], _, h => h
 | u :: r, w', h => Loc.sets h1 h2 r (h.set h1 h2)
theorem zaF : SlTy Tryz.prog 26 3 (.int .i64 0) 1 8 := ⟨Tryz.underlying26, by kernel_rfl, rfl, by omega⟩
theorem zbk : SlTy Tryz.prog 41 70 (.agg #[.string ByteArray.empty, .slice none 0 0, .int .i64 0]) 3 48 := ⟨Tryz.underlying41, by kernel_rfl, rfl, by omega⟩
theorem zX : SlTy Tryz.prog 59 28 (.agg #[.int .i64 0, .string ByteArray.empty, .slice none 0 0, .string ByteArray.empty, .slice none 0 0, .slice none 0 0, .slice none 0 0, .int .i64 0, .bool false]) 9 152 := ⟨Tryz.underlying59, by kernel_rfl, rfl, by omega⟩
theorem slTyLitS : SlTy Tryz.prog 88 30 (.agg #[.int .i64 0, .string ByteArray.empty, .slice none 0 0, .string ByteArray.empty, .slice none 0 0, .slice none 0 0, .slice none 0 0, .int .i64 0, .bool false, .bool false]) 10 160 := ⟨Tryz.underlying88, by kernel_rfl, rfl, by omega⟩
theorem zag : SlTy Tryz.prog 31 33 (.agg #[.int .i64 0, .int .i64 0, .string ByteArray.empty, .slice none 0 0, .string ByteArray.empty, .slice none 0 0, .slice none 0 0, .slice none 0 0, .int .i64 0, .bool false, .bool false, .slice none 0 0]) 12 192 := ⟨Tryz.underlying31, by kernel_rfl, rfl, by omega⟩
end Go.Proofs.YtoehhbkhdddeeaaGreatDoor
section
namespace Go.Proofs.YtoehhbkhdddeeaaGreatDoor
open Go Go.RowKit
set_option linter.unusedVariables false
set_option linter.unusedSimpArgs false
set_option maxRecDepth 100000
set_option maxHeartbeats 16000000
theorem Tm.wtV_eq (t : Tm) : wtV t.cd = t.name.size + (t.kids.length + wtR (t.kids.map Tm.cd)) := by
 rw [Tm.cd_eq]; simp [wtV, wtC]
theorem zaw (e : List CD) (es : List (List CD)) : wtR (e :: es) = wtV e + wtR es := by simp [wtR]
mutual
theorem Tm.size_wtV : ∀ (t : Tm), t.size ≤ 1 + wtV t.cd
 | .mk n ks => by
  have := Tm.sizes_wtR ks
  rw [Tm.wtV_eq]
  simp only [Tm.size, Tm.kids]
  omega
theorem Tm.sizes_wtR : ∀ (ts : List Tm), Tm.sizes ts ≤ ts.length + wtR (ts.map Tm.cd)
 | [] => by simp [Tm.sizes]
 | t :: ts => by
  have h1 := Tm.size_wtV t
  have h2 := Tm.sizes_wtR ts
  simp only [Tm.sizes, List.length_cons, List.map_cons, zaw]
  omega
end
end Go.Proofs.YtoehhbkhdddeeaaGreatDoor
end
