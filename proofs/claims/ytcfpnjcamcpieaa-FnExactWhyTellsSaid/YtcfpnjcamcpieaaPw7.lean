/- Parts of the proof: Mark. -/
import Derived.Test.YtcfpnjcamcpieaaPw1
section
namespace Go.Proofs.Ytcfpnjcamcpieaa
open Go Go.RowKit
set_option linter.unusedVariables false
set_option linter.unusedSimpArgs false
set_option maxRecDepth 100000
set_option maxHeartbeats 16000000
/-- The digits of a number, ahead of what is there. -/
def zbg : Nat → Nat → List UInt8 → List UInt8
 | 0, _, l => l
 | fuel + 1, k, l => if k = 0 then l else zbg fuel (k / 10) (UInt8.ofNat (48 + k % 10) :: l)
/-- laws.markText -/
def mtx (k : Int) : ByteArray := if k ≤ 0 then ⟨#[109, 48]⟩ else ⟨(109 :: zbg k.toNat k.toNat []).toArray⟩
theorem zb2 : ∀ (fuel k : Nat) (l : List UInt8), k < 10 ^ fuel → (zbg fuel k l).length ≤ l.length + fuel
 | 0, k, l, _ => by simp [zbg]
 | fuel + 1, k, l, h => by
  simp only [zbg]
  split
  ·omega
  ·have := zb2 fuel (k / 10) (UInt8.ofNat (48 + k % 10) :: l) (by rw [Nat.pow_succ] at h; omega)
   simp only [List.length_cons] at this; omega
mutual
def cnt : CD → Nat
 | .int _ => 1
 | .bool _ => 1
 | .str _ => 1
 | .sl es => cntR es
def cntR : List (List CD) → Nat
 | [] => 0
 | e :: es => cntV e + cntR es
def cntV : List CD → Nat
 | [] => 0
 | d :: ds => cnt d + cntV ds
end
mutual
def mkC : CD → Int → CD
 | .int _, k => .int k
 | .bool _, k => .bool (decide (k % 3 = 0))
 | .str _, k => .str (mtx k)
 | .sl es, k => .sl (mkR es k)
def mkR : List (List CD) → Int → List (List CD)
 | [], _ => []
 | e :: es, k => mkV e k :: mkR es (k + cntV e)
def mkV : List CD → Int → List CD
 | [], _ => []
 | d :: ds, k => mkC d k :: mkV ds (k + cnt d)
end
theorem zcg : ∀ (ds : List CD) (k : Int), (mkV ds k).length = ds.length
 | [], _ => rfl
 | d :: ds, k => by simp [mkV, zcg ds]
theorem zI : ∀ (es : List (List CD)) (k : Int), (mkR es k).length = es.length
 | [], _ => rfl
 | e :: es, k => by simp [mkR, zI es]
theorem zaL : ∀ (a b : List (List CD)), cntR (a ++ b) = cntR a + cntR b
 | [], b => by simp [cntR]
 | e :: es, b => by simp only [List.cons_append, cntR, zaL es b]; omega
theorem zbB : ∀ (a b : List (List CD)) (k : Int), mkR (a ++ b) k = mkR a k ++ mkR b (k + cntR a)
 | [], b, k => by simp [mkR, cntR]
 | e :: es, b, k => by simp only [List.cons_append, mkR, cntR, zbB es b]; rw [show k + ((cntV e + cntR es : Nat) : Int) = k + cntV e + cntR es from by omega]
theorem zb3 (es : List (List CD)) (k : Int) (n : Nat) (h : ∀ e ∈ es, e.length = n) : (mkR es k).flatten.length = es.length * n := by
 induction es generalizing k with
 | nil => simp [mkR]
 | cons e es ih =>
  simp only [mkR, List.flatten_cons, zc8, zcg, List.length_cons, Nat.add_mul, Nat.one_mul]
  rw [ih _ (fun x hx => h x (List.mem_cons_of_mem _ hx)), h e (by simp)]; omega
/-- Cells in a row, read. -/
def RdFlat (w : World) (b off : Nat) (ds : List CD) (f : List Nat) : Prop := ∃ vs, CellsAt w b off vs ∧ RdVs w ds vs f
theorem RdFlat.nil (w : World) (b off : Nat) : RdFlat w b off [] [] := ⟨[], fun j v h => by simp at h, by simp [RdVs]⟩
theorem RdFlat.nil_fp {w : World} {b off : Nat} {f : List Nat} (h : RdFlat w b off [] f) : f = [] := by
 obtain ⟨vs, _, h⟩ := h; simp only [RdVs] at h; exact h.2
theorem RdFlat.head {w : World} {b off : Nat} {d : CD} {ds : List CD} {f : List Nat} (h : RdFlat w b off (d :: ds) f) : ∃ v f1 f2, f = f1 ++ f2 ∧ w.cell? ⟨b, off, none⟩ = some v ∧ Rd w d v f1 ∧ RdFlat w b (off + 1) ds f2 := by
 obtain ⟨vs, hc, h⟩ := h
 simp only [RdVs] at h
 obtain ⟨v, vs', f1, f2, rfl, rfl, hd, hr⟩ := h
 exact ⟨v, f1, f2, rfl, hc 0 v rfl, hd, vs', fun j u hj => by have := hc (j + 1) u (by simpa using hj); rw [show off + 1 + j = off + (j + 1) from by omega]; exact this, hr⟩
theorem RdFlat.snoc {w : World} {b off : Nat} {ds : List CD} {d : CD} {v : Value} {f g : List Nat} (h : RdFlat w b off ds f) (hc : w.cell? ⟨b, off + ds.length, none⟩ = some v) (hd : Rd w d v g) : RdFlat w b off (ds ++ [d]) (f ++ g) := by
 obtain ⟨vs, h1, h2⟩ := h
 refine ⟨vs ++ [v], fun j u hj => ?_, h2.app (RdVs.single hd)⟩
 have hl := h2.length
 by_cases hjl : j < vs.length
 ·rw [List.getElem?_append_left hjl] at hj; exact h1 j u hj
 ·rw [List.getElem?_append_right (by omega)] at hj
  have : j - vs.length = 0 := by
   rcases Nat.eq_zero_or_pos (j - vs.length) with h | h
   ·exact h
   ·rw [List.getElem?_eq_none (by simp; omega)] at hj; simp at hj
  rw [this] at hj
  simp at hj
  subst hj
  rw [show j = ds.length from by omega]; exact hc
theorem RdFlat.frame {w w' : World} {b off : Nat} {ds : List CD} {f : List Nat} (h : RdFlat w b off ds f) (hc : ∀ j, off ≤ j → j < off + ds.length → w'.cell? ⟨b, j, none⟩ = w.cell? ⟨b, j, none⟩) (hs : SameOn f w w') : RdFlat w' b off ds f := by
 obtain ⟨vs, h1, h2⟩ := h
 refine ⟨vs, fun j u hj => ?_, h2.same _ hs⟩
 have : j < vs.length := (List.getElem?_eq_some_iff.1 hj).1
 rw [hc (off + j) (by omega) (by rw [← h2.length]; omega)]; exact h1 j u hj
theorem RdFlat.set {w : World} {b off o : Nat} {ds : List CD} {f : List Nat} {u : Value} (h : RdFlat w b off ds f) (ho : o < off ∨ off + ds.length ≤ o) (hb : b ∉ f) : RdFlat (w.setCell ⟨b, o, none⟩ u) b off ds f :=
 h.frame (fun j h1 h2 => World.cell?_setCell_other _ _ _ _ (by intro e; simp only [Addr.mk.injEq] at e; omega)) (zJ fun x hx e => hb (by subst e; exact hx))
theorem RdFlat.same {w w' : World} {b off : Nat} {ds : List CD} {f : List Nat} (h : RdFlat w b off ds f) (hb : w'.heap[b]? = w.heap[b]?) (hs : SameOn f w w') : RdFlat w' b off ds f :=
 h.frame (fun _ _ _ => World.cell?_of_block (w := w) hb) hs
theorem RdRows.toFlat {w : World} {b off : Nat} {es : List (List CD)} {f : List Nat} (h : RdRows w b off es f) : RdFlat w b off es.flatten f := h.flat
theorem RdFlat.toRows {w : World} {b off k : Nat} {es : List (List CD)} {f : List Nat} (h : RdFlat w b off es.flatten f) : RdRows w b off es f := by
 obtain ⟨vs, h1, h2⟩ := h; exact RdRows.mk (k := k) h1 h2
/-- From w to w' none but the blocks of fp have turned. -/
structure Only (fp : List Nat) (w w' : World) : Prop where
 os : w'.os = w.os
 tape : w'.tape = w.tape
 output : w'.output = w.output
 size : w.heap.size ≤ w'.heap.size
 block : ∀ b, b < w.heap.size → b ∉ fp → w'.heap[b]? = w.heap[b]?
theorem Only.refl (fp : List Nat) (w : World) : Only fp w w := ⟨rfl, rfl, rfl, Nat.le_refl _, fun _ _ _ => rfl⟩
theorem Only.trans {fp : List Nat} {a b c : World} (h : Only fp a b) (h' : Only fp b c) : Only fp a c :=
 ⟨h'.os.trans h.os, h'.tape.trans h.tape, h'.output.trans h.output, Nat.le_trans h.size h'.size, fun k hk hn => (h'.block k (zc4 hk h.size) hn).trans (h.block k hk hn)⟩
theorem Only.mono {fp fq : List Nat} {w w' : World} (h : Only fp w w') (hs : ∀ b ∈ fp, b ∈ fq) : Only fq w w' := ⟨h.os, h.tape, h.output, h.size, fun b hb hn => h.block b hb fun hm => hn (hs b hm)⟩
theorem Only.below {fp : List Nat} {w w' : World} (h : Below w.heap.size w w') : Only fp w w' := ⟨h.os, h.tape, h.output, h.size, fun b hb _ => h.block b hb⟩
theorem Only.set {fp : List Nat} {w : World} {a : Addr} {u : Value} (h : a.block ∈ fp) : Only fp w (w.setCell a u) :=
 ⟨rfl, rfl, rfl, by simp, fun b _ hn => Below.heap_setCell _ _ _ _ (fun e => hn (e ▸ h))⟩
theorem Only.toBelow {fp : List Nat} {w w' : World} {B : Nat} (h : Only fp w w') (hB : B ≤ w.heap.size) (hf : ∀ b ∈ fp, B ≤ b) : Below B w w' :=
 ⟨h.os, h.tape, h.output, h.size, fun b hb => h.block b (by omega) fun hm => by have := hf b hm; omega⟩
theorem Only.same {fp fq : List Nat} {w w' : World} (h : Only fp w w') (hl : ∀ b ∈ fq, b < w.heap.size) (hd : ∀ b ∈ fq, b ∉ fp) : SameOn fq w w' := fun b hb => h.block b (hl b hb) (hd b hb)
/-- Rows of cells that may be written, whatever they hold. -/
def Free (w : World) (fp : List Nat) : Prop := ∀ b ∈ fp, ∃ c e, w.heap[b]? = some (.cells c e (0, 0))
theorem Fresh.free {lo : Nat} {w : World} {fp : List Nat} (h : Fresh lo w fp) : Free w fp := fun b hb => (h.2 b hb).2
theorem Free.same {w w' : World} {fp : List Nat} (h : Free w fp) (hs : SameOn fp w w') : Free w' fp := fun b hb => by obtain ⟨c, e, h1⟩ := h b hb; exact ⟨c, e, (hs b hb).trans h1⟩
theorem Free.frozen {w : World} {fp : List Nat} (h : Free w fp) {b j : Nat} (hb : b ∈ fp) : w.frozen? ⟨b, j, none⟩ = false := by
 obtain ⟨c, e, h1⟩ := h b hb; unfold World.frozen?; rw [h1]; simp
theorem Free.lt {w : World} {fp : List Nat} (h : Free w fp) : ∀ b ∈ fp, b < w.heap.size := fun b hb => by obtain ⟨c, e, h1⟩ := h b hb; exact (Array.getElem?_eq_some_iff.1 h1).1
theorem Free.set {w : World} {fp : List Nat} {a : Addr} {u : Value} (h : Free w fp) (ha : a.spot = none) : Free (w.setCell a u) fp := fun b hb => by
 obtain ⟨c, e, h1⟩ := h b hb
 by_cases hab : b = a.block
 ·subst hab
  refine ⟨c.setIfInBounds a.off u, e, ?_⟩
  simp [World.setCell, Array.getElem?_modify, h1, ha]
 ·exact ⟨c, e, (Below.heap_setCell _ _ _ _ hab).trans h1⟩
/-- In the midst of marking a row: what is done, what is to come. -/
structure MkSt (w : World) (b off : Nat) (done todo : List CD) (f1 f3 : List Nat) : Prop where
 hdone : RdFlat w b off done f1
 htodo : RdFlat w b (off + done.length) todo f3
 free : Free w (b :: (f1 ++ f3))
 nd : (b :: (f1 ++ f3)).Nodup
/-- One scalar cell. -/
theorem MkSt.scalar {w : World} {b off : Nat} {done ds : List CD} {d d' : CD} {f1 f3 : List Nat} {u : Value} (h : MkSt w b off done (d :: ds) f1 f3) (hd : ∀ v f, Rd w d v f → f = []) (hu : ∀ w', Rd w' d' u []) :
  MkSt (w.setCell ⟨b, off + done.length, none⟩ u) b off (done ++ [d']) ds f1 f3 := by
 obtain ⟨v, g1, g2, rfl, hc, hr, ht⟩ := h.htodo.head
 obtain rfl := hd v g1 hr
 simp only [List.nil_append] at h ⊢
 have hn := List.nodup_cons.1 h.nd
 have hb1 : b ∉ f1 := fun hm => hn.1 (List.mem_append_left _ hm)
 have hb2 : b ∉ g2 := fun hm => hn.1 (List.mem_append_right _ hm)
 refine ⟨?_, ?_, h.free.set rfl, h.nd⟩
 ·have := (h.hdone.set (u := u) (o := off + done.length) (.inr (Nat.le_refl _)) hb1).snoc (World.cell?_setCell_same _ _ _ hc) (hu _)
  simpa using this
 ·rw [zc8, List.length_singleton, ← Nat.add_assoc]
  exact ht.set (.inl (by omega)) hb2
/-- One slice, marked by a call. -/
theorem MkSt.slice {w w' : World} {b off : Nat} {done ds : List CD} {es es' : List (List CD)} {f1 fe f2 : List Nat} {v : Value} (h : MkSt w b off done (.sl es :: ds) f1 (fe ++ f2)) (hc : w.cell? ⟨b, off + done.length, none⟩ = some v)
  (ht : RdFlat w b (off + done.length + 1) ds f2) (ho : Only fe w w') (hr : Rd w' (.sl es') v fe) (hf : Free w' fe) : MkSt w' b off (done ++ [.sl es']) ds (f1 ++ fe) f2 := by
 have hn := List.nodup_cons.1 h.nd
 have hn2 := List.nodup_append.1 hn.2
 have hn3 := List.nodup_append.1 hn2.2.1
 have hbl : b < w.heap.size := h.free.lt b (by simp)
 have hbe : b ∉ fe := fun hm => hn.1 (List.mem_append_right _ (List.mem_append_left _ hm))
 have hbb := ho.block b hbl hbe
 have s1 : SameOn f1 w w' := ho.same (fun x hx => h.free.lt x (by simp [hx])) fun x hx hm => hn2.2.2 x hx x (List.mem_append_left _ hm) rfl
 have s2 : SameOn f2 w w' := ho.same (fun x hx => h.free.lt x (by simp [hx])) fun x hx hm => hn3.2.2 x hm x hx rfl
 refine ⟨(h.hdone.same hbb s1).snoc (by rw [World.cell?_of_block (w := w) hbb]; exact hc) hr, ?_, ?_, by rw [List.append_assoc]; exact h.nd⟩
 ·rw [zc8, List.length_singleton, ← Nat.add_assoc]
  exact ht.same hbb s2
 ·intro x hx
  rcases zda.1 hx with rfl | hx
  ·obtain ⟨c, e, h1⟩ := h.free x (by simp); exact ⟨c, e, hbb.trans h1⟩
  ·rcases zc6.1 hx with hx | hx
   ·rcases zc6.1 hx with hx | hx
    ·obtain ⟨c, e, h1⟩ := h.free x (by simp [hx]); exact ⟨c, e, (s1 x hx).trans h1⟩
    ·exact hf x hx
   ·obtain ⟨c, e, h1⟩ := h.free x (by simp [hx]); exact ⟨c, e, (s2 x hx).trans h1⟩
theorem MkSt.below {w w' : World} {b off : Nat} {done todo : List CD} {f1 f3 : List Nat} (h : MkSt w b off done todo f1 f3) (hb : Below w.heap.size w w') : MkSt w' b off done todo f1 f3 := by
 have hl := h.free.lt
 have s : SameOn (b :: (f1 ++ f3)) w w' := zM hb hl
 exact ⟨h.hdone.same (s b (by simp)) (s.mono fun x hx => by simp [hx]), h.htodo.same (s b (by simp)) (s.mono fun x hx => by simp [hx]), h.free.same s, h.nd⟩
theorem MkSt.head {w : World} {b off : Nat} {done ds : List CD} {es : List (List CD)} {f1 f3 : List Nat} (h : MkSt w b off done (.sl es :: ds) f1 f3) :
  ∃ v fe f2, f3 = fe ++ f2 ∧ w.cell? ⟨b, off + done.length, none⟩ = some v ∧ Rd w (.sl es) v fe ∧ RdFlat w b (off + done.length + 1) ds f2 ∧ Free w fe ∧ fe.Nodup := by
 obtain ⟨v, fe, f2, rfl, hc, hr, ht⟩ := h.htodo.head
 have hn := List.nodup_cons.1 h.nd
 have hn2 := List.nodup_append.1 hn.2
 exact ⟨v, fe, f2, rfl, hc, hr, ht, fun x hx => h.free x (by simp [hx]), (List.nodup_append.1 hn2.2.1).1⟩
end Go.Proofs.Ytcfpnjcamcpieaa
end
