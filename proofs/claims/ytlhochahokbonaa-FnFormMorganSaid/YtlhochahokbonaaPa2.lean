/- Parts of the proof: Open Mark Term. -/
import Derived.ChangeArms
import Derived.DataReads
import Derived.ProofKit
import Derived.OpenShut
import Derived.Test.YtlhochahokbonaaPa1
namespace Go.Proofs.Ytlhochahokbonaa
open Go Go.RowKit Go.ChangeShapes Go.WideShapes
set_option linter.unusedVariables false
set_option linter.unusedSimpArgs false
theorem list1 {α : Type} {a b : α} (h : [a] = [b]) : a = b := by simpa using h
section
variable {H : Type} {enc : TypeId × Value → H} {P : Program} {w : World} {base : Nat} {spare : Nat → Bool} {held : Bool}
end
end Go.Proofs.Ytlhochahokbonaa
namespace Go.Proofs.Ytlhochahokbonaa
open Go Go.RowKit
set_option linter.unusedVariables false
set_option linter.unusedSimpArgs false
/-- Cells in a row, read. -/
def RdFlat (w : World) (b off : Nat) (ds : List CD) (f : List Nat) : Prop := ∃ vs, CellsAt w b off vs ∧ RdVs w ds vs f
theorem RdFlat.snoc {w : World} {b off : Nat} {ds : List CD} {d : CD} {v : Value} {f g : List Nat} (h : RdFlat w b off ds f) (hc : w.cell? ⟨b, off + ds.length, none⟩ = some v) (hd : Rd w d v g) : RdFlat w b off (ds ++ [d]) (f ++ g) := by
  obtain ⟨vs, h1, h2⟩ := h
  refine ⟨vs ++ [v], fun j u hj => ?_, h2.app (RdVs.single hd)⟩
  have hl := h2.length
  by_cases hjl : j < vs.length
  · rw [List.getElem?_append_left hjl] at hj; exact h1 j u hj
  · rw [List.getElem?_append_right (by omega)] at hj
    have : j - vs.length = 0 := by
      rcases Nat.eq_zero_or_pos (j - vs.length) with h | h
      · exact h
      · rw [List.getElem?_eq_none (by simp; omega)] at hj; simp at hj
    rw [this] at hj
    simp at hj
    subst hj
    rw [show j = ds.length from by omega]; exact hc
theorem RdFlat.frame {w w' : World} {b off : Nat} {ds : List CD} {f : List Nat} (h : RdFlat w b off ds f) (hc : ∀ j, off ≤ j → j < off + ds.length → w'.cell? ⟨b, j, none⟩ = w.cell? ⟨b, j, none⟩) (hs : SameOn f w w') : RdFlat w' b off ds f := by
  obtain ⟨vs, h1, h2⟩ := h
  refine ⟨vs, fun j u hj => ?_, h2.same _ hs⟩
  have : j < vs.length := (List.getElem?_eq_some_iff.1 hj).1
  rw [hc (off + j) (by omega) (by rw [← h2.length]; omega)]; exact h1 j u hj
theorem RdFlat.set {w : World} {b off o : Nat} {ds : List CD} {f : List Nat} {u : Value} (h : RdFlat w b off ds f) (ho : o < off ∨ off + ds.length ≤ o) (hb : b ∉ f) : RdFlat (w.setCell ⟨b, o, none⟩ u) b off ds f :=
  h.frame (fun j h1 h2 => World.cell?_setCell_other _ _ _ _ (by intro e; simp only [Addr.mk.injEq] at e; omega)) (sameOn_set fun x hx e => hb (by subst e; exact hx))
theorem RdFlat.same {w w' : World} {b off : Nat} {ds : List CD} {f : List Nat} (h : RdFlat w b off ds f) (hb : w'.heap[b]? = w.heap[b]?) (hs : SameOn f w w') : RdFlat w' b off ds f :=
  h.frame (fun _ _ _ => World.cell?_of_block (w := w) hb) hs
/-- From w to w' none but the blocks of fp have turned. -/
structure Only (fp : List Nat) (w w' : World) : Prop where
  os : w'.os = w.os
  tape : w'.tape = w.tape
  output : w'.output = w.output
  size : w.heap.size ≤ w'.heap.size
  block : ∀ b, b < w.heap.size → b ∉ fp → w'.heap[b]? = w.heap[b]?
theorem Only.refl (fp : List Nat) (w : World) : Only fp w w := ⟨rfl, rfl, rfl, Nat.le_refl _, fun _ _ _ => rfl⟩
theorem Only.trans {fp : List Nat} {a b c : World} (h : Only fp a b) (h' : Only fp b c) : Only fp a c :=
  ⟨h'.os.trans h.os, h'.tape.trans h.tape, h'.output.trans h.output, Nat.le_trans h.size h'.size, fun k hk hn => (h'.block k (Nat.lt_of_lt_of_le hk h.size) hn).trans (h.block k hk hn)⟩
theorem Only.mono {fp fq : List Nat} {w w' : World} (h : Only fp w w') (hs : ∀ b ∈ fp, b ∈ fq) : Only fq w w' := ⟨h.os, h.tape, h.output, h.size, fun b hb hn => h.block b hb fun hm => hn (hs b hm)⟩
theorem Only.below {fp : List Nat} {w w' : World} (h : Below w.heap.size w w') : Only fp w w' := ⟨h.os, h.tape, h.output, h.size, fun b hb _ => h.block b hb⟩
theorem Only.set {fp : List Nat} {w : World} {a : Addr} {u : Value} (h : a.block ∈ fp) : Only fp w (w.setCell a u) :=
  ⟨rfl, rfl, rfl, by simp, fun b _ hn => Below.heap_setCell _ _ _ _ (fun e => hn (e ▸ h))⟩
theorem Only.toBelow {fp : List Nat} {w w' : World} {B : Nat} (h : Only fp w w') (hB : B ≤ w.heap.size) (hf : ∀ b ∈ fp, B ≤ b) : Below B w w' :=
  ⟨h.os, h.tape, h.output, h.size, fun b hb => h.block b (by omega) fun hm => by have := hf b hm; omega⟩
theorem Only.same {fp fq : List Nat} {w w' : World} (h : Only fp w w') (hl : ∀ b ∈ fq, b < w.heap.size) (hd : ∀ b ∈ fq, b ∉ fp) : SameOn fq w w' := fun b hb => h.block b (hl b hb) (hd b hb)
/-- Rows of cells that may be written, whatever they hold. -/
def Free (w : World) (fp : List Nat) : Prop := ∀ b ∈ fp, ∃ c e, w.heap[b]? = some (.cells c e (0, 0))
theorem Fresh.free {lo : Nat} {w : World} {fp : List Nat} (h : Fresh lo w fp) : Free w fp := fun b hb => (h.2 b hb).2
theorem Free.same {w w' : World} {fp : List Nat} (h : Free w fp) (hs : SameOn fp w w') : Free w' fp := fun b hb => by obtain ⟨c, e, h1⟩ := h b hb; exact ⟨c, e, (hs b hb).trans h1⟩
theorem Free.frozen {w : World} {fp : List Nat} (h : Free w fp) {b j : Nat} (hb : b ∈ fp) : w.frozen? ⟨b, j, none⟩ = false := by
  obtain ⟨c, e, h1⟩ := h b hb; unfold World.frozen?; rw [h1]; simp
theorem Free.lt {w : World} {fp : List Nat} (h : Free w fp) : ∀ b ∈ fp, b < w.heap.size := fun b hb => by obtain ⟨c, e, h1⟩ := h b hb; exact (Array.getElem?_eq_some_iff.1 h1).1
theorem Free.set {w : World} {fp : List Nat} {a : Addr} {u : Value} (h : Free w fp) (ha : a.spot = none) : Free (w.setCell a u) fp := fun b hb => by
  obtain ⟨c, e, h1⟩ := h b hb
  by_cases hab : b = a.block
  · subst hab
    refine ⟨c.setIfInBounds a.off u, e, ?_⟩
    simp [World.setCell, Array.getElem?_modify, h1, ha]
  · exact ⟨c, e, (Below.heap_setCell _ _ _ _ hab).trans h1⟩
/-- In the midst of marking a row: what is done, what is to come. -/
structure MkSt (w : World) (b off : Nat) (done todo : List CD) (f1 f3 : List Nat) : Prop where
  hdone : RdFlat w b off done f1
  htodo : RdFlat w b (off + done.length) todo f3
  free : Free w (b :: (f1 ++ f3))
  nd : (b :: (f1 ++ f3)).Nodup
/-- One slice, marked by a call. -/
theorem MkSt.slice {w w' : World} {b off : Nat} {done ds : List CD} {es es' : List (List CD)} {f1 fe f2 : List Nat} {v : Value} (h : MkSt w b off done (.sl es :: ds) f1 (fe ++ f2)) (hc : w.cell? ⟨b, off + done.length, none⟩ = some v)
    (ht : RdFlat w b (off + done.length + 1) ds f2) (ho : Only fe w w') (hr : Rd w' (.sl es') v fe) (hf : Free w' fe) : MkSt w' b off (done ++ [.sl es']) ds (f1 ++ fe) f2 := by
  have hn := List.nodup_cons.1 h.nd
  have hn2 := List.nodup_append.1 hn.2
  have hn3 := List.nodup_append.1 hn2.2.1
  have hbl : b < w.heap.size := h.free.lt b (by simp)
  have hbe : b ∉ fe := fun hm => hn.1 (List.mem_append_right _ (List.mem_append_left _ hm))
  have hbb := ho.block b hbl hbe
  have s1 : SameOn f1 w w' := ho.same (fun x hx => h.free.lt x (by simp [hx])) fun x hx hm => hn2.2.2 x hx x (List.mem_append_left _ hm) rfl
  have s2 : SameOn f2 w w' := ho.same (fun x hx => h.free.lt x (by simp [hx])) fun x hx hm => hn3.2.2 x hm x hx rfl
  refine ⟨(h.hdone.same hbb s1).snoc (by rw [World.cell?_of_block (w := w) hbb]; exact hc) hr, ?_, ?_, by rw [List.append_assoc]; exact h.nd⟩
  · rw [List.length_append, List.length_singleton, ← Nat.add_assoc]
    exact ht.same hbb s2
  · intro x hx
    rcases List.mem_cons.1 hx with rfl | hx
    · obtain ⟨c, e, h1⟩ := h.free x (by simp); exact ⟨c, e, hbb.trans h1⟩
    · rcases List.mem_append.1 hx with hx | hx
      · rcases List.mem_append.1 hx with hx | hx
        · obtain ⟨c, e, h1⟩ := h.free x (by simp [hx]); exact ⟨c, e, (s1 x hx).trans h1⟩
        · exact hf x hx
      · obtain ⟨c, e, h1⟩ := h.free x (by simp [hx]); exact ⟨c, e, (s2 x hx).trans h1⟩
theorem MkSt.below {w w' : World} {b off : Nat} {done todo : List CD} {f1 f3 : List Nat} (h : MkSt w b off done todo f1 f3) (hb : Below w.heap.size w w') : MkSt w' b off done todo f1 f3 := by
  have hl := h.free.lt
  have s : SameOn (b :: (f1 ++ f3)) w w' := below_sameOn hb hl
  exact ⟨h.hdone.same (s b (by simp)) (s.mono fun x hx => by simp [hx]), h.htodo.same (s b (by simp)) (s.mono fun x hx => by simp [hx]), h.free.same s, h.nd⟩
end Go.Proofs.Ytlhochahokbonaa
namespace Go.Proofs.Ytlhochahokbonaa
open Go Go.RowKit
set_option linter.unusedVariables false
set_option linter.unusedSimpArgs false
inductive Tm where
  | mk (name : ByteArray) (kids : List Tm)
namespace Tm
def name : Tm → ByteArray | .mk n _ => n
def kids : Tm → List Tm | .mk _ k => k
def cd : Tm → List CD
  | .mk n ks => [.str n, .sl (ks.map cd)]
mutual
def size : Tm → Nat | .mk _ ks => 1 + sizes ks
def sizes : List Tm → Nat | [] => 0 | t :: ts => size t + sizes ts
end
theorem size_eq (t : Tm) : t.size = 1 + sizes t.kids := by cases t; simp [size, kids]
theorem cd_eq (t : Tm) : t.cd = [.str t.name, .sl (t.kids.map cd)] := by cases t; simp [cd, name, kids]
theorem size_pos (t : Tm) : 0 < t.size := by rw [size_eq]; omega
theorem size_mem : ∀ {ts : List Tm} {t : Tm}, t ∈ ts → t.size ≤ sizes ts
  | [], t, h => by simp at h
  | u :: us, t, h => by
    simp only [sizes]
    rcases List.mem_cons.1 h with rfl | h
    · omega
    · have := size_mem h; omega
theorem size_kid {t : Tm} {i : Nat} (h : i < t.kids.length) : t.kids[i].size < t.size := by
  have := size_mem (List.getElem_mem h); rw [size_eq t]; omega
theorem size_kid_mem {t u : Tm} (h : u ∈ t.kids) : u.size < t.size := by have := size_mem h; rw [size_eq t]; omega
theorem sizes_len : ∀ (ts : List Tm), ts.length ≤ sizes ts
  | [] => by simp
  | t :: ts => by have := sizes_len ts; have := size_pos t; simp only [sizes, List.length_cons]; omega
theorem sizes_append : ∀ (a b : List Tm), sizes (a ++ b) = sizes a + sizes b
  | [], b => by simp [sizes]
  | t :: ts, b => by simp only [List.cons_append, sizes, sizes_append ts b]; omega
theorem sizes_take (ts : List Tm) (k : Nat) : sizes (ts.take k) ≤ sizes ts := by
  have := sizes_append (ts.take k) (ts.drop k); rw [List.take_append_drop] at this; omega
theorem cd_len (t : Tm) : t.cd.length = 2 := by cases t; simp [cd]
mutual
def beq : Tm → Tm → Bool
  | .mk n ks, .mk m js => decide (n = m) && beqs ks js
def beqs : List Tm → List Tm → Bool
  | [], [] => true
  | t :: ts, u :: us => beq t u && beqs ts us
  | _, _ => false
end
mutual
theorem beq_iff : ∀ (a b : Tm), beq a b = true ↔ a = b
  | .mk n ks, .mk m js => by simp [beq, beqs_iff ks js]
theorem beqs_iff : ∀ (a b : List Tm), beqs a b = true ↔ a = b
  | [], [] => by simp [beqs]
  | [], _ :: _ => by simp [beqs]
  | _ :: _, [] => by simp [beqs]
  | t :: ts, u :: us => by simp [beqs, beq_iff t u, beqs_iff ts us]
end
instance : DecidableEq Tm := fun a b => if h : beq a b = true then .isTrue ((beq_iff a b).1 h) else .isFalse fun e => h ((beq_iff a b).2 e)
end Tm
def lower (c : UInt8) : Bool := decide (97 ≤ (c.toNat : Int)) && decide ((c.toNat : Int) ≤ 122)
/-- A name: one or two small letters. -/
def nameB (s : ByteArray) : Bool := (decide (1 ≤ (s.size : Int)) && decide ((s.size : Int) ≤ 2)) && s.data.toList.all lower
namespace Tm
mutual
/-- impl.termSize -/
def tsz : Tm → Int → Int
  | .mk n ks, d => if nameB n = true ∧ ks.length ≤ 2 ∧ d ≤ 4 then 1 + tszs ks (d + 1) else 13
def tszs : List Tm → Int → Int
  | [], _ => 0
  | t :: ts, d => tsz t d + tszs ts d
end
theorem tsz_eq (t : Tm) (d : Int) : tsz t d = if nameB t.name = true ∧ t.kids.length ≤ 2 ∧ d ≤ 4 then 1 + tszs t.kids (d + 1) else 13 := by cases t; simp only [tsz]; rfl
theorem tszs_append : ∀ (a b : List Tm) (d : Int), tszs (a ++ b) d = tszs a d + tszs b d
  | [], b, d => by simp [tszs]
  | t :: ts, b, d => by simp only [List.cons_append, tszs, tszs_append ts b]; omega
theorem tszs_succ (ts : List Tm) (d : Int) (k : Nat) (h : k < ts.length) : tszs (ts.take (k + 1)) d = tszs (ts.take k) d + tsz ts[k] d := by
  rw [List.take_succ_eq_append_getElem h, tszs_append]; simp [tszs]
/-- Its bounds. -/
def cap5 : Nat → Nat | 0 => 13 | n + 1 => 13 + 2 * cap5 n
theorem tsz_bd : ∀ (n : Nat) (t : Tm) (d : Int), 5 - n ≤ d → 1 ≤ tsz t d ∧ tsz t d ≤ cap5 n
  | 0, t, d, h => by rw [tsz_eq, if_neg (by omega)]; simp [cap5]
  | n + 1, t, d, h => by
    rw [tsz_eq]
    split
    · rename_i hc
      have h2 := hc.2.1
      have hk : ∀ ts : List Tm, 0 ≤ tszs ts (d + 1) ∧ tszs ts (d + 1) ≤ cap5 n * ts.length := by
        intro ts
        induction ts with
        | nil => simp [tszs]
        | cons u us ih =>
          have := tsz_bd n u (d + 1) (by omega)
          simp only [tszs, List.length_cons, Int.natCast_add, Int.natCast_one, Int.mul_add, Int.mul_one]
          omega
      have h3 := hk t.kids
      have h4 : cap5 n * t.kids.length ≤ cap5 n * 2 := Nat.mul_le_mul_left _ h2
      simp only [cap5]
      refine ⟨by omega, ?_⟩
      have : (cap5 n : Int) * (t.kids.length : Int) ≤ (cap5 n : Int) * 2 := by exact_mod_cast h4
      omega
    · simp [cap5]; omega
theorem tsz_bd' (t : Tm) (d : Int) (h : 1 ≤ d) : 1 ≤ tsz t d ∧ tsz t d ≤ 403 := tsz_bd 4 t d (by omega)
theorem tszs_bd (ts : List Tm) (d : Int) (h : 1 ≤ d) : 0 ≤ tszs ts d ∧ tszs ts d ≤ 403 * ts.length := by
  induction ts with
  | nil => simp [tszs]
  | cons u us ih => have := tsz_bd' u d h; simp only [tszs, List.length_cons]; omega
mutual
/-- spec.l4Shape -/
def shape : Tm → Int → Bool
  | .mk n ks, d => decide (1 ≤ d) && nameB n && decide (ks.length ≤ 2) && shapes ks (d - 1)
def shapes : List Tm → Int → Bool
  | [], _ => true
  | t :: ts, d => shape t d && shapes ts d
end
theorem shape_eq (t : Tm) (d : Int) : shape t d = (decide (1 ≤ d) && nameB t.name && decide (t.kids.length ≤ 2) && shapes t.kids (d - 1)) := by cases t; simp only [shape]; rfl
theorem shapes_all : ∀ (ts : List Tm) (d : Int), shapes ts d = ts.all (shape · d)
  | [], d => by simp [shapes]
  | t :: ts, d => by simp [shapes, shapes_all ts d]
theorem shapes_take (ts : List Tm) (d : Int) (k : Nat) (h : k < ts.length) : shapes (ts.take (k + 1)) d = (shapes (ts.take k) d && shape ts[k] d) ∧ (shape ts[k] d = false → shapes ts d = false) := by
  constructor
  · rw [shapes_all, shapes_all, List.take_succ_eq_append_getElem h, List.all_append]
    simp only [List.all_cons, List.all_nil, Bool.and_true]
  · intro hf
    rw [shapes_all, List.all_eq_false]
    exact ⟨ts[k], List.getElem_mem h, by simp [hf]⟩
mutual
/-- spec.l4Many -/
def many : Tm → Int → Int
  | .mk _ ks, d => if 0 < d then 1 + manys ks (d - 1) else 1
def manys : List Tm → Int → Int
  | [], _ => 0
  | t :: ts, d => many t d + manys ts d
end
theorem many_eq (t : Tm) (d : Int) : many t d = if 0 < d then 1 + manys t.kids (d - 1) else 1 := by cases t; simp [many, kids]
theorem manys_append : ∀ (a b : List Tm) (d : Int), manys (a ++ b) d = manys a d + manys b d
  | [], b, d => by simp [manys]
  | t :: ts, b, d => by simp only [List.cons_append, manys, manys_append ts b]; omega
theorem manys_succ (ts : List Tm) (d : Int) (k : Nat) (h : k < ts.length) : manys (ts.take (k + 1)) d = manys (ts.take k) d + many ts[k] d := by
  rw [List.take_succ_eq_append_getElem h, manys_append]; simp [manys]
mutual
theorem many_bd : ∀ (t : Tm) (d : Int), 1 ≤ many t d ∧ many t d ≤ size t
  | .mk n ks, d => by
    have := manys_bd ks (d - 1)
    simp only [many, size]
    split <;> omega
theorem manys_bd : ∀ (ts : List Tm) (d : Int), 0 ≤ manys ts d ∧ manys ts d ≤ sizes ts
  | [], d => by simp [manys, sizes]
  | t :: ts, d => by
    have := many_bd t d
    have := manys_bd ts d
    simp only [manys, sizes]; omega
end
mutual
theorem shape_many : ∀ (t : Tm) (d : Int), shape t d = true → many t d = size t
  | .mk n ks, d, h => by
    simp only [shape, Bool.and_eq_true, decide_eq_true_eq] at h
    have := shapes_manys ks (d - 1) h.2
    simp only [many, size]
    rw [if_pos (by omega)]; omega
theorem shapes_manys : ∀ (ts : List Tm) (d : Int), shapes ts d = true → manys ts d = sizes ts
  | [], d, _ => by simp [manys, sizes]
  | t :: ts, d, h => by
    simp only [shapes, Bool.and_eq_true] at h
    have := shape_many t d h.1
    have := shapes_manys ts d h.2
    simp only [manys, sizes]; omega
end
mutual
theorem shape_tsz : ∀ (t : Tm) (d : Int), if shape t d = true then tsz t (5 - d) = size t else 13 ≤ tsz t (5 - d)
  | .mk n ks, d => by
    have hk := shapes_tszs ks (d - 1)
    simp only [shape, tsz, size, Bool.and_eq_true, decide_eq_true_eq]
    rw [show (5 : Int) - d + 1 = 5 - (d - 1) from by omega]
    by_cases h1 : nameB n = true ∧ ks.length ≤ 2 ∧ 5 - d ≤ 4
    · rw [if_pos h1]
      by_cases h2 : shapes ks (d - 1) = true
      · rw [if_pos h2] at hk
        rw [if_pos ⟨⟨⟨by omega, h1.1⟩, h1.2.1⟩, h2⟩]; omega
      · rw [if_neg h2] at hk
        rw [if_neg (fun h => h2 h.2)]; omega
    · rw [if_neg h1, if_neg (fun h => h1 ⟨h.1.1.2, h.1.2, by omega⟩)]; omega
theorem shapes_tszs : ∀ (ts : List Tm) (d : Int), if shapes ts d = true then tszs ts (5 - d) = sizes ts else 13 ≤ tszs ts (5 - d)
  | [], d => by simp [shapes, tszs, sizes]
  | t :: ts, d => by
    have h1 := shape_tsz t d
    have h2 := shapes_tszs ts d
    have h3 : 0 ≤ tsz t (5 - d) := by
      by_cases h : 1 ≤ 5 - d
      · have := tsz_bd' t _ h; omega
      · by_cases hs : shape t d = true
        · rw [if_pos hs] at h1; omega
        · rw [if_neg hs] at h1; omega
    have h4 : 0 ≤ tszs ts (5 - d) := by
      by_cases hs : shapes ts d = true
      · rw [if_pos hs] at h2; omega
      · rw [if_neg hs] at h2; omega
    simp only [shapes, tszs, sizes, Bool.and_eq_true]
    by_cases ha : shape t d = true
    · rw [if_pos ha] at h1
      by_cases hb : shapes ts d = true
      · rw [if_pos hb] at h2; rw [if_pos ⟨ha, hb⟩]; omega
      · rw [if_neg hb] at h2; rw [if_neg (fun h => hb h.2)]; omega
    · rw [if_neg ha] at h1
      rw [if_neg (fun h => ha h.1)]; omega
end
/-- A well-formed term. -/
def wf (t : Tm) : Bool := shape t 4 && decide (t.size ≤ 12)
theorem wf_impl (t : Tm) : decide (tsz t 1 ≤ 12) = wf t := by
  have h := shape_tsz t 4
  unfold wf
  rw [Bool.eq_iff_iff]
  simp only [decide_eq_true_eq, Bool.and_eq_true]
  rw [show (5 : Int) - 4 = 1 from rfl] at h
  by_cases hs : shape t 4 = true
  · rw [if_pos hs] at h; rw [h]; simp [hs]; omega
  · rw [if_neg hs] at h; simp [hs]; omega
theorem wf_spec (t : Tm) : (shape t 4 && decide (many t 4 ≤ 12)) = wf t := by
  unfold wf
  by_cases hs : shape t 4 = true
  · rw [shape_many t 4 hs]; simp [hs]; omega
  · simp [hs]
mutual
/-- withParts, l4Parts -/
def addP : List Tm → Tm → List Tm
  | l, .mk n ks => if (.mk n ks) ∈ addPs l ks then addPs l ks else addPs l ks ++ [.mk n ks]
def addPs : List Tm → List Tm → List Tm
  | l, [] => l
  | l, t :: ts => addPs (addP l t) ts
end
theorem addP_eq (l : List Tm) (t : Tm) : addP l t = if t ∈ addPs l t.kids then addPs l t.kids else addPs l t.kids ++ [t] := by cases t; simp only [addP]; rfl
theorem addPs_append : ∀ (l a b : List Tm), addPs l (a ++ b) = addPs (addPs l a) b
  | l, [], b => by simp [addPs]
  | l, t :: ts, b => by simp [addPs, addPs_append]
theorem addPs_succ (l ts : List Tm) (k : Nat) (h : k < ts.length) : addPs l (ts.take (k + 1)) = addP (addPs l (ts.take k)) ts[k] := by
  rw [List.take_succ_eq_append_getElem h, addPs_append]; simp [addPs]
/-- TermParts -/
def parts (ts : List Tm) : List Tm := if ts.all wf then addPs [] ts else []
mutual
theorem addP_len : ∀ (t : Tm) (l : List Tm), (addP l t).length ≤ l.length + size t
  | .mk n ks, l => by
    have := addPs_len ks l
    simp only [addP, size]
    split <;> simp <;> omega
theorem addPs_len : ∀ (ts l : List Tm), (addPs l ts).length ≤ l.length + sizes ts
  | [], l => by simp [addPs, sizes]
  | t :: ts, l => by
    have := addPs_len ts (addP l t)
    have := addP_len t l
    simp only [addPs, sizes]; omega
end
theorem beq_self (t : Tm) : beq t t = true := (beq_iff _ _).2 rfl
theorem beq_no {t u : Tm} (h : beq t u = false) : t ≠ u := by rintro rfl; rw [beq_self] at h; simp at h
/-- The place of a term in a list, or -1. -/
def IsPlace (l : List Tm) (t : Tm) (n : Int) : Prop := (n = -1 ∧ t ∉ l) ∨ ∃ k : Nat, k < l.length ∧ n = k ∧ l[k]? = some t
theorem IsPlace.neg {l : List Tm} {t : Tm} {n : Int} (h : IsPlace l t n) : n < 0 ↔ t ∉ l := by
  rcases h with ⟨rfl, h⟩ | ⟨k, hk, rfl, h⟩
  · simp [h]
  · have : t ∈ l := by rw [List.getElem?_eq_some_iff] at h; obtain ⟨_, rfl⟩ := h; exact List.getElem_mem _
    constructor
    · intro h'; omega
    · intro h'; exact absurd this h'
theorem IsPlace.bd {l : List Tm} {t : Tm} {n : Int} (h : IsPlace l t n) : -1 ≤ n ∧ n < l.length + 1 := by
  rcases h with ⟨rfl, h⟩ | ⟨k, hk, rfl, h⟩ <;> omega
end Tm
end Go.Proofs.Ytlhochahokbonaa
