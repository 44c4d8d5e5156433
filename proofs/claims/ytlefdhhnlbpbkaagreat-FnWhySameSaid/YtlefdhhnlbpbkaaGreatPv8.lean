/- Parts of the proof: Mark ExLib ExTo Wt. -/
import Derived.Test.YtlefdhhnlbpbkaaGreatPv1
import Derived.Lib.QuietBelow
import Derived.Test.YtlefdhhnlbpbkaaGreatPv6
import Derived.Test.YtlefdhhnlbpbkaaGreatPv4
import Derived.Deep.Cut
section
namespace Go.Proofs.YtlefdhhnlbpbkaaGreat
open Go Go.RowKit
set_option linter.unusedVariables false
set_option linter.unusedSimpArgs false
set_option maxRecDepth 100000
set_option maxHeartbeats 16000000
/-- Cells in a row, read. -/
def RdFlat (w : World) (b off : Nat) (ds : List CD) (f : List Nat) : Prop := ∃ vs, CellsAt w b off vs ∧ RdVs w ds vs f
theorem RdFlat.nil (w : World) (b off : Nat) : RdFlat w b off [] [] := ⟨[], fun j v h => by simp at h, by simp [RdVs]⟩
theorem RdFlat.snoc {w : World} {b off : Nat} {ds : List CD} {d : CD} {v : Value} {f g : List Nat} (h : RdFlat w b off ds f) (hc : w.cell? ⟨b, off + ds.length, none⟩ = some v) (hd : Rd w d v g) : RdFlat w b off (ds ++ [d]) (f ++ g) := by
 obtain ⟨vs, h1, h2⟩ := h
 refine ⟨vs ++ [v], fun j u hj => ?_, h2.app (RdVs.single hd)⟩
 have hl := h2.length
 by_cases hjl : j < vs.length
 ·rw [List.getElem?_append_left hjl] at hj; exact h1 j u hj
 ·rw [List.getElem?_append_right (by omega)] at hj
  have : j - vs.length = 0 := by
   rcases Nat.eq_zero_or_pos (j - vs.length) with h | h
   ·exact h
   ·rw [List.getElem?_eq_none (by simp; omega)] at hj; simp at hj
  rw [this] at hj
  simp at hj
  subst hj
  rw [show j = ds.length from by omega]; exact hc
theorem RdFlat.frame {w w' : World} {b off : Nat} {ds : List CD} {f : List Nat} (h : RdFlat w b off ds f) (hc : ∀ j, off ≤ j → j < off + ds.length → w'.cell? ⟨b, j, none⟩ = w.cell? ⟨b, j, none⟩) (hs : SameOn f w w') : RdFlat w' b off ds f := by
 obtain ⟨vs, h1, h2⟩ := h
 refine ⟨vs, fun j u hj => ?_, h2.same _ hs⟩
 have : j < vs.length := (List.getElem?_eq_some_iff.1 hj).1
 rw [hc (off + j) (by omega) (by rw [← h2.length]; omega)]; exact h1 j u hj
theorem RdFlat.set {w : World} {b off o : Nat} {ds : List CD} {f : List Nat} {u : Value} (h : RdFlat w b off ds f) (ho : o < off ∨ off + ds.length ≤ o) (hb : b ∉ f) : RdFlat (w.setCell ⟨b, o, none⟩ u) b off ds f :=
 h.frame (fun j h1 h2 => World.cell?_setCell_other _ _ _ _ (by intro e; simp only [Addr.mk.injEq] at e; omega)) (zw fun x hx e => hb (by subst e; exact hx))
theorem RdFlat.same {w w' : World} {b off : Nat} {ds : List CD} {f : List Nat} (h : RdFlat w b off ds f) (hb : w'.heap[b]? = w.heap[b]?) (hs : SameOn f w w') : RdFlat w' b off ds f :=
 h.frame (fun _ _ _ => World.cell?_of_block (w := w) hb) hs
/-- From w to w' none but the blocks of fp have turned. -/
structure Only (fp : List Nat) (w w' : World) : Prop where
 os : w'.os = w.os
 tape : w'.tape = w.tape
 output : w'.output = w.output
 size : w.heap.size ≤ w'.heap.size
 block : ∀ b, b < w.heap.size → b ∉ fp → w'.heap[b]? = w.heap[b]?
theorem Only.refl (fp : List Nat) (w : World) : Only fp w w := ⟨rfl, rfl, rfl, Nat.le_refl _, fun _ _ _ => rfl⟩
theorem Only.trans {fp : List Nat} {a b c : World} (h : Only fp a b) (h' : Only fp b c) : Only fp a c :=
 ⟨h'.os.trans h.os, h'.tape.trans h.tape, h'.output.trans h.output, Nat.le_trans h.size h'.size, fun k hk hn => (h'.block k (zep hk h.size) hn).trans (h.block k hk hn)⟩
theorem Only.mono {fp fq : List Nat} {w w' : World} (h : Only fp w w') (hs : ∀ b ∈ fp, b ∈ fq) : Only fq w w' := ⟨h.os, h.tape, h.output, h.size, fun b hb hn => h.block b hb fun hm => hn (hs b hm)⟩
theorem Only.below {fp : List Nat} {w w' : World} (h : Below w.heap.size w w') : Only fp w w' := ⟨h.os, h.tape, h.output, h.size, fun b hb _ => h.block b hb⟩
theorem Only.set {fp : List Nat} {w : World} {a : Addr} {u : Value} (h : a.block ∈ fp) : Only fp w (w.setCell a u) :=
 ⟨rfl, rfl, rfl, by simp, fun b _ hn => Below.heap_setCell _ _ _ _ (fun e => hn (e ▸ h))⟩
theorem Only.toBelow {fp : List Nat} {w w' : World} {B : Nat} (h : Only fp w w') (hB : B ≤ w.heap.size) (hf : ∀ b ∈ fp, B ≤ b) : Below B w w' :=
 ⟨h.os, h.tape, h.output, h.size, fun b hb => h.block b (by omega) fun hm => by have := hf b hm; omega⟩
theorem Only.same {fp fq : List Nat} {w w' : World} (h : Only fp w w') (hl : ∀ b ∈ fq, b < w.heap.size) (hd : ∀ b ∈ fq, b ∉ fp) : SameOn fq w w' := fun b hb => h.block b (hl b hb) (hd b hb)
/-- Rows of cells that may be written, whatever they hold. -/
def Free (w : World) (fp : List Nat) : Prop := ∀ b ∈ fp, ∃ c e, w.heap[b]? = some (.cells c e (0, 0))
theorem Fresh.free {lo : Nat} {w : World} {fp : List Nat} (h : Fresh lo w fp) : Free w fp := fun b hb => (h.2 b hb).2
theorem Free.same {w w' : World} {fp : List Nat} (h : Free w fp) (hs : SameOn fp w w') : Free w' fp := fun b hb => by obtain ⟨c, e, h1⟩ := h b hb; exact ⟨c, e, (hs b hb).trans h1⟩
theorem Free.frozen {w : World} {fp : List Nat} (h : Free w fp) {b j : Nat} (hb : b ∈ fp) : w.frozen? ⟨b, j, none⟩ = false := by
 obtain ⟨c, e, h1⟩ := h b hb; unfold World.frozen?; rw [h1]; simp
theorem Free.lt {w : World} {fp : List Nat} (h : Free w fp) : ∀ b ∈ fp, b < w.heap.size := fun b hb => by obtain ⟨c, e, h1⟩ := h b hb; exact (Array.getElem?_eq_some_iff.1 h1).1
theorem Free.set {w : World} {fp : List Nat} {a : Addr} {u : Value} (h : Free w fp) (ha : a.spot = none) : Free (w.setCell a u) fp := fun b hb => by
 obtain ⟨c, e, h1⟩ := h b hb
 by_cases hab : b = a.block
 ·subst hab
  refine ⟨c.setIfInBounds a.off u, e, ?_⟩
  simp [World.setCell, Array.getElem?_modify, h1, ha]
 ·exact ⟨c, e, (Below.heap_setCell _ _ _ _ hab).trans h1⟩
/-- In the midst of marking a row: what is done, what is to come. -/
structure MkSt (w : World) (b off : Nat) (done todo : List CD) (f1 f3 : List Nat) : Prop where
 hdone : RdFlat w b off done f1
 htodo : RdFlat w b (off + done.length) todo f3
 free : Free w (b :: (f1 ++ f3))
 nd : (b :: (f1 ++ f3)).Nodup
/-- One slice, marked by a call. -/
theorem MkSt.slice {w w' : World} {b off : Nat} {done ds : List CD} {es es' : List (List CD)} {f1 fe f2 : List Nat} {v : Value} (h : MkSt w b off done (.sl es :: ds) f1 (fe ++ f2)) (hc : w.cell? ⟨b, off + done.length, none⟩ = some v)
  (ht : RdFlat w b (off + done.length + 1) ds f2) (ho : Only fe w w') (hr : Rd w' (.sl es') v fe) (hf : Free w' fe) : MkSt w' b off (done ++ [.sl es']) ds (f1 ++ fe) f2 := by
 have hn := List.nodup_cons.1 h.nd
 have hn2 := List.nodup_append.1 hn.2
 have hn3 := List.nodup_append.1 hn2.2.1
 have hbl : b < w.heap.size := h.free.lt b (by simp)
 have hbe : b ∉ fe := fun hm => hn.1 (List.mem_append_right _ (List.mem_append_left _ hm))
 have hbb := ho.block b hbl hbe
 have s1 : SameOn f1 w w' := ho.same (fun x hx => h.free.lt x (by simp [hx])) fun x hx hm => hn2.2.2 x hx x (List.mem_append_left _ hm) rfl
 have s2 : SameOn f2 w w' := ho.same (fun x hx => h.free.lt x (by simp [hx])) fun x hx hm => hn3.2.2 x hm x hx rfl
 refine ⟨(h.hdone.same hbb s1).snoc (by rw [World.cell?_of_block (w := w) hbb]; exact hc) hr, ?_, ?_, by rw [List.append_assoc]; exact h.nd⟩
 ·rw [zet, List.length_singleton, ← Nat.add_assoc]
  exact ht.same hbb s2
 ·intro x hx
  rcases zev.1 hx with rfl | hx
  ·obtain ⟨c, e, h1⟩ := h.free x (by simp); exact ⟨c, e, hbb.trans h1⟩
  ·rcases zer.1 hx with hx | hx
   ·rcases zer.1 hx with hx | hx
    ·obtain ⟨c, e, h1⟩ := h.free x (by simp [hx]); exact ⟨c, e, (s1 x hx).trans h1⟩
    ·exact hf x hx
   ·obtain ⟨c, e, h1⟩ := h.free x (by simp [hx]); exact ⟨c, e, (s2 x hx).trans h1⟩
theorem MkSt.below {w w' : World} {b off : Nat} {done todo : List CD} {f1 f3 : List Nat} (h : MkSt w b off done todo f1 f3) (hb : Below w.heap.size w w') : MkSt w' b off done todo f1 f3 := by
 have hl := h.free.lt
 have s : SameOn (b :: (f1 ++ f3)) w w' := zF hb hl
 exact ⟨h.hdone.same (s b (by simp)) (s.mono fun x hx => by simp [hx]), h.htodo.same (s b (by simp)) (s.mono fun x hx => by simp [hx]), h.free.same s, h.nd⟩
mutual
def ndC : CD → Nat
 | .sl es => 1 + ndR es
 | _ => 1
def ndR : List (List CD) → Nat
 | [] => 0
 | e :: es => 1 + ndV e + ndR es
def ndV : List CD → Nat
 | [] => 0
 | d :: ds => ndC d + ndV ds
end
theorem ndR_mem : ∀ {es : List (List CD)} {e : List CD}, e ∈ es → ndV e < ndR es
 | [], e, h => by simp at h
 | d :: ds, e, h => by
  simp only [ndR]
  rcases zev.1 h with rfl | h
  ·omega
  ·have := ndR_mem h; omega
theorem ndV_sl {es : List (List CD)} {ds : List CD} (h : CD.sl es ∈ ds) : ndR es < ndV ds := by
 induction ds with
 | nil => simp at h
 | cons d ds ih =>
  simp only [ndV]
  rcases zev.1 h with rfl | h
  ·simp only [ndC]; omega
  ·have := ih h; omega
theorem zaj {w1 w2 : World} {b : Nat} {cs : Array Value} (h : ∀ j, w1.cell? ⟨b, j, none⟩ = cs[j]?) (hl : b < w1.heap.size) (hb : Below w1.heap.size w1 w2) : ∀ j, w2.cell? ⟨b, j, none⟩ = cs[j]? :=
 fun j => (hb.cell (p := ⟨b, j, none⟩) hl).trans (h j)
theorem Wy.kid_nd {x k : Wy} (h : k ∈ x.kids) : ndV k.cd < ndV x.cd := by
 have h1 := ndR_mem (List.mem_map_of_mem (f := Wy.cd) h)
 have h2 : ndR (x.kids.map Wy.cd) < ndV x.cd := ndV_sl (by rw [Wy.cd_eq]; simp)
 omega
end Go.Proofs.YtlefdhhnlbpbkaaGreat
end
namespace Go.Proofs.YtlefdhhnlbpbkaaGreat
open Go Go.RowKit
set_option linter.unusedVariables false
set_option linter.unusedSimpArgs false
set_option maxHeartbeats 800000
theorem zdz {n : Int} : NoFp [.int n] := fun w vs f h => by obtain ⟨v, rfl, h'⟩ := RdVs.one_inv h; exact (zu h').2.2
theorem cells_set {w : World} {b : Nat} {cs : Array Value} (h : ∀ j, w.cell? ⟨b, j, none⟩ = cs[j]?) (i : Nat) (v : Value) (hi : i < cs.size := by simp) : ∀ j, (w.setCell ⟨b, i, none⟩ v).cell? ⟨b, j, none⟩ = (cs.setIfInBounds i v)[j]? := by
 intro j
 by_cases hij : i = j
 ·subst hij
  rw [World.cell?_setCell_same w _ v ((h i).trans (Array.getElem?_eq_getElem hi)), Array.getElem?_setIfInBounds]
  simp [hi]
 ·rw [World.cell?_setCell_other w _ _ v (by simp [hij]), h j, Array.getElem?_setIfInBounds]
  simp [hij]
/-- From w to w' of what was there the blocks from lo to hi alone have turned. -/
structure Loc (lo hi : Nat) (w w' : World) : Prop where
 os : w'.os = w.os
 tape : w'.tape = w.tape
 output : w'.output = w.output
 size : w.heap.size ≤ w'.heap.size
 block : ∀ k, k < w.heap.size → (k < lo ∨ hi ≤ k) → w'.heap[k]? = w.heap[k]?
theorem Loc.refl (lo hi : Nat) (w : World) : Loc lo hi w w := ⟨rfl, rfl, rfl, Nat.le_refl _, fun _ _ _ => rfl⟩
theorem Loc.set {lo hi : Nat} {w w' : World} (h : Loc lo hi w w') {b i : Nat} {v : Value} (h1 : lo ≤ b) (h2 : b < hi) : Loc lo hi w (w'.setCell ⟨b, i, none⟩ v) :=
 ⟨h.os, h.tape, h.output, by simpa [World.setCell] using h.size, fun k hk hn => (Below.heap_setCell _ _ _ _ (by simp only; omega)).trans (h.block k hk hn)⟩
theorem Loc.below {lo hi : Nat} {w w1 w2 : World} (h : Loc lo hi w w1) (hb : Below w1.heap.size w1 w2) : Loc lo hi w w2 :=
 ⟨hb.os.trans h.os, hb.tape.trans h.tape, hb.output.trans h.output, Nat.le_trans h.size hb.size, fun k hk hn => (hb.block k (zep hk h.size)).trans (h.block k hk hn)⟩
theorem Loc.toBelow {lo hi : Nat} {w w1 : World} (h : Loc lo hi w w1) {B : Nat} (hB : B ≤ w.heap.size) (hl : B ≤ lo) : Below B w w1 :=
 ⟨h.os, h.tape, h.output, h.size, fun k hk => h.block k (by omega) (.inl (by omega))⟩
theorem Loc.same {lo hi : Nat} {w w1 w0 : World} (h : Loc lo hi w w1) {f : List Nat} (hf : Fresh hi w f) : SameOn f w w1 := fun b hb => h.block b (hf.lt b hb) (.inr (hf.2 b hb).1)
def zA (b : Nat) : List (Nat × Value) → World → World
 | [], w => w
 | u :: r, w => zA b r (w.setCell ⟨b, u.1, none⟩ u.2)
def zb2 : List (Nat × Value) → List Value → List Value
 | [], l => l
 | u :: r, l => zb2 r (l.set u.1 u.2)
theorem zaq {b : Nat} : ∀ (ups : List (Nat × Value)) {w : World} {l : List Value}, (∀ j, w.cell? ⟨b, j, none⟩ = (l.toArray)[j]?) → (∀ u ∈ ups, u.1 < l.length) → ∀ j, (zA b ups w).cell? ⟨b, j, none⟩ = ((zb2 ups l).toArray)[j]?
 | [], _, _, h, _ => h
 | u :: r, w, l, h, hu => by
  have h1 := cells_set h u.1 u.2 (by simpa using hu u (List.mem_cons_self ..))
  rw [zej] at h1
  exact zaq r h1 (fun x hx => by rw [List.length_set]; exact hu x (List.mem_cons_of_mem _ hx))
theorem Loc.sets {lo hi b : Nat} {w : World} (h1 : lo ≤ b) (h2 : b < hi) : ∀ (ups : List (Nat × Value)) {w' : World}, Loc lo hi w w' → Loc lo hi w (zA b ups w')
 | [], _, h => h
 | u :: r, w', h => Loc.sets h1 h2 r (h.set h1 h2)
theorem zB : SlTy Tryz.prog 40 3 (.int .i64 0) 1 8 := ⟨Tryz.underlying40, by kernel_rfl, rfl, by omega⟩
theorem slTySymS : SlTy Tryz.prog 23 102 (.agg #[.string ByteArray.empty, .slice none 0 0, .int .i64 0]) 3 48 := ⟨Tryz.underlying23, by kernel_rfl, rfl, by omega⟩
theorem zac : SlTy Tryz.prog 26 36 (.agg #[.string ByteArray.empty, .slice none 0 0, .string ByteArray.empty, .slice none 0 0]) 4 80 := ⟨Tryz.underlying26, by kernel_rfl, rfl, by omega⟩
theorem zcO : SlTy Tryz.prog 42 113 (.agg #[.int .i64 0, .int .i64 0, .int .i64 0]) 3 24 := ⟨Tryz.underlying42, by kernel_rfl, rfl, by omega⟩
theorem zbm : SlTy Tryz.prog 30 32 (.agg #[.int .i64 0, .int .i64 0, .string ByteArray.empty, .slice none 0 0, .slice none 0 0]) 5 80 := ⟨Tryz.underlying30, by kernel_rfl, rfl, by omega⟩
end Go.Proofs.YtlefdhhnlbpbkaaGreat
section
namespace Go.Proofs.YtlefdhhnlbpbkaaGreat
open Go Go.RowKit
set_option linter.unusedVariables false
set_option linter.unusedSimpArgs false
set_option maxRecDepth 100000
set_option maxHeartbeats 16000000
end Go.Proofs.YtlefdhhnlbpbkaaGreat
end
