/- The exact laws' to functions. -/
import Derived.Deep.Cut
import Derived.Test.YtlhochahokbonaaExLib
namespace Go.Proofs.Ytlhochahokbonaa
open Go Go.RowKit
set_option linter.unusedVariables false
set_option linter.unusedSimpArgs false


set_option maxHeartbeats 800000
theorem z_int (w : World) : RdVs w [.int 0] [.int .i64 0] [] := rd_int_mk (by unfold I64; omega)
theorem z_str (w : World) : RdVs w [.str ⟨#[]⟩] [.string ⟨#[]⟩] [] := rd_str_mk (by simp [maxLen, ByteArray.size])
theorem z_bool (w : World) : RdVs w [.bool false] [.bool false] [] := rd_bool_mk
theorem z_sl (w : World) : RdVs w [.sl []] [.slice none 0 0] [] := RdVs.single (by simp only [Rd]; exact ⟨none, 0, rfl, by simp, by simp [maxLen], by simp⟩)
theorem nofp_int {n : Int} : NoFp [.int n] := fun w vs f h => by obtain ⟨v, rfl, h'⟩ := RdVs.one_inv h; exact (rd_int_inv h').2.2
theorem nofp_str {n : ByteArray} : NoFp [.str n] := fun w vs f h => by obtain ⟨v, rfl, h'⟩ := RdVs.one_inv h; exact (rd_str_inv h').2.2
theorem nofp_bool {n : Bool} : NoFp [.bool n] := fun w vs f h => by obtain ⟨v, rfl, h'⟩ := RdVs.one_inv h; exact (rd_bool_inv h').2
theorem nofp_sl : NoFp [.sl []] := fun w vs f h => by
  obtain ⟨v, rfl, h'⟩ := RdVs.one_inv h
  simp only [Rd] at h'
  obtain ⟨a, c, _, _, _, ⟨_, h2⟩ | ⟨h2, _⟩⟩ := h'
  · exact h2
  · exact absurd rfl h2
def ToOut (d : CD) (w : World) (e : Ending) (w' : World) : Prop := ∃ kv fp, e = .returned kv ∧ Rd w' d kv fp ∧ Fresh w.heap.size w' fp ∧ Below w.heap.size w w'
def ToOutV (ds : List CD) (w : World) (e : Ending) (w' : World) : Prop := ∃ vs fp, e = .returned (.agg vs.toArray) ∧ RdVs w' ds vs fp ∧ Fresh w.heap.size w' fp ∧ Below w.heap.size w w'
theorem cells_set {w : World} {b : Nat} {cs : Array Value} (h : ∀ j, w.cell? ⟨b, j, none⟩ = cs[j]?) (i : Nat) (v : Value) (hi : i < cs.size := by simp) : ∀ j, (w.setCell ⟨b, i, none⟩ v).cell? ⟨b, j, none⟩ = (cs.setIfInBounds i v)[j]? := by
  intro j
  by_cases hij : i = j
  · subst hij
    rw [World.cell?_setCell_same w _ v ((h i).trans (Array.getElem?_eq_getElem hi)), Array.getElem?_setIfInBounds]
    simp [hi]
  · rw [World.cell?_setCell_other w _ _ v (by simp [hij]), h j, Array.getElem?_setIfInBounds]
    simp [hij]
theorem cells_set_other {w : World} {b b' : Nat} {cs : Array Value} (h : ∀ j, w.cell? ⟨b, j, none⟩ = cs[j]?) (i : Nat) (v : Value) (hne : b' ≠ b) : ∀ j, (w.setCell ⟨b', i, none⟩ v).cell? ⟨b, j, none⟩ = cs[j]? :=
  fun j => (World.cell?_setCell_other w _ _ v (by simp [hne])).trans (h j)
theorem free_later {w1 w2 : World} {b : Nat} (h : ∀ j, w1.frozen? ⟨b, j, none⟩ = false) (hl : b < w1.heap.size) (hb : Below w1.heap.size w1 w2) : ∀ j, w2.frozen? ⟨b, j, none⟩ = false :=
  fun j => (hb.frozen (p := ⟨b, j, none⟩) hl).trans (h j)
theorem free_set {w : World} {b : Nat} (h : ∀ j, w.frozen? ⟨b, j, none⟩ = false) (a : Addr) (v : Value) : ∀ j, (w.setCell a v).frozen? ⟨b, j, none⟩ = false := fun j => by rw [World.frozen?_setCell]; exact h j
/-- From w to w' of what was there the blocks from lo to hi alone have turned. -/
structure Loc (lo hi : Nat) (w w' : World) : Prop where
  os : w'.os = w.os
  tape : w'.tape = w.tape
  output : w'.output = w.output
  size : w.heap.size ≤ w'.heap.size
  block : ∀ k, k < w.heap.size → (k < lo ∨ hi ≤ k) → w'.heap[k]? = w.heap[k]?
theorem Loc.refl (lo hi : Nat) (w : World) : Loc lo hi w w := ⟨rfl, rfl, rfl, Nat.le_refl _, fun _ _ _ => rfl⟩
theorem Loc.set {lo hi : Nat} {w w' : World} (h : Loc lo hi w w') {b i : Nat} {v : Value} (h1 : lo ≤ b) (h2 : b < hi) : Loc lo hi w (w'.setCell ⟨b, i, none⟩ v) :=
  ⟨h.os, h.tape, h.output, by simpa [World.setCell] using h.size, fun k hk hn => (Below.heap_setCell _ _ _ _ (by simp only; omega)).trans (h.block k hk hn)⟩
theorem Loc.below {lo hi : Nat} {w w1 w2 : World} (h : Loc lo hi w w1) (hb : Below w1.heap.size w1 w2) : Loc lo hi w w2 :=
  ⟨hb.os.trans h.os, hb.tape.trans h.tape, hb.output.trans h.output, Nat.le_trans h.size hb.size, fun k hk hn => (hb.block k (Nat.lt_of_lt_of_le hk h.size)).trans (h.block k hk hn)⟩
theorem Loc.toBelow {lo hi : Nat} {w w1 : World} (h : Loc lo hi w w1) {B : Nat} (hB : B ≤ w.heap.size) (hl : B ≤ lo) : Below B w w1 :=
  ⟨h.os, h.tape, h.output, h.size, fun k hk => h.block k (by omega) (.inl (by omega))⟩
theorem Loc.same {lo hi : Nat} {w w1 w0 : World} (h : Loc lo hi w w1) {f : List Nat} (hf : Fresh hi w f) : SameOn f w w1 := fun b hb => h.block b (hf.lt b hb) (.inr (hf.2 b hb).1)
def setAt (b : Nat) : List (Nat × Value) → World → World
  | [], w => w
  | u :: r, w => setAt b r (w.setCell ⟨b, u.1, none⟩ u.2)
def updAll : List (Nat × Value) → List Value → List Value
  | [], l => l
  | u :: r, l => updAll r (l.set u.1 u.2)
theorem cells_sets {b : Nat} : ∀ (ups : List (Nat × Value)) {w : World} {l : List Value}, (∀ j, w.cell? ⟨b, j, none⟩ = (l.toArray)[j]?) → (∀ u ∈ ups, u.1 < l.length) → ∀ j, (setAt b ups w).cell? ⟨b, j, none⟩ = ((updAll ups l).toArray)[j]?
  | [], _, _, h, _ => h
  | u :: r, w, l, h, hu => by
    have h1 := cells_set h u.1 u.2 (by simpa using hu u (List.mem_cons_self ..))
    rw [List.setIfInBounds_toArray] at h1
    exact cells_sets r h1 (fun x hx => by rw [List.length_set]; exact hu x (List.mem_cons_of_mem _ hx))
theorem cells_sets_other {b b' : Nat} {cs : Array Value} (hne : b' ≠ b) : ∀ (ups : List (Nat × Value)) {w : World}, (∀ j, w.cell? ⟨b, j, none⟩ = cs[j]?) → ∀ j, (setAt b' ups w).cell? ⟨b, j, none⟩ = cs[j]?
  | [], _, h => h
  | u :: r, w, h => cells_sets_other hne r (cells_set_other h u.1 u.2 hne)
theorem free_sets {b b' : Nat} : ∀ (ups : List (Nat × Value)) {w : World}, (∀ j, w.frozen? ⟨b, j, none⟩ = false) → ∀ j, (setAt b' ups w).frozen? ⟨b, j, none⟩ = false
  | [], _, h => h
  | u :: r, w, h => free_sets r (free_set h _ _)
theorem Loc.sets {lo hi b : Nat} {w : World} (h1 : lo ≤ b) (h2 : b < hi) : ∀ (ups : List (Nat × Value)) {w' : World}, Loc lo hi w w' → Loc lo hi w (setAt b ups w')
  | [], _, h => h
  | u :: r, w', h => Loc.sets h1 h2 r (h.set h1 h2)
theorem Fresh.app2 {lo mid : Nat} {w : World} {f g : List Nat} (h : Fresh lo w f) (hm : ∀ b ∈ f, b < mid) (h' : Fresh mid w g) (hl : lo ≤ mid) : Fresh lo w (f ++ g) := Fresh.app h hm hl h'

theorem slTyIntS : SlTy Try.prog 29 3 (.int .i64 0) 1 8 := ⟨Try.underlying29, by kernel_rfl, rfl, by omega⟩
def zIntS : List CD := [.int 0]
theorem zIntS_rd (w : World) : RdVs w zIntS [.int .i64 0] [] := by
  have h := (z_int w)
  exact h
theorem zIntS_nofp : NoFp zIntS := nofp_int
theorem slTyBoolS : SlTy Try.prog 44 4 (.bool false) 1 1 := ⟨Try.underlying44, by kernel_rfl, rfl, by omega⟩
def zBoolS : List CD := [.bool false]
theorem zBoolS_rd (w : World) : RdVs w zBoolS [.bool false] [] := by
  have h := (z_bool w)
  exact h
theorem zBoolS_nofp : NoFp zBoolS := nofp_bool
def zIntSS : List CD := [.sl []]
theorem zIntSS_rd (w : World) : RdVs w zIntSS [.slice none 0 0] [] := by
  have h := (z_sl w)
  exact h
theorem zIntSS_nofp : NoFp zIntSS := nofp_sl
def zFormSS : List CD := [.sl []]
theorem zFormSS_rd (w : World) : RdVs w zFormSS [.slice none 0 0] [] := by
  have h := (z_sl w)
  exact h
theorem zFormSS_nofp : NoFp zFormSS := nofp_sl
theorem slTySymS : SlTy Try.prog 23 95 (.agg #[.string ByteArray.empty, .slice none 0 0, .int .i64 0]) 3 48 := ⟨Try.underlying23, by kernel_rfl, rfl, by omega⟩
def zSymS : List CD := [.str ⟨#[]⟩, .sl [], .int 0]
theorem zSymS_rd (w : World) : RdVs w zSymS [.string ⟨#[]⟩, .slice none 0 0, .int .i64 0] [] := by
  have h := (RdVs.app (z_str w) (RdVs.app (z_sl w) (z_int w)))
  exact h
theorem zSymS_nofp : NoFp zSymS := (NoFp.append nofp_str (NoFp.append nofp_sl nofp_int))
def zSigS : List CD := [.sl []]
theorem zSigS_rd (w : World) : RdVs w zSigS [.slice none 0 0] [] := by
  have h := (z_sl w)
  exact h
theorem zSigS_nofp : NoFp zSigS := nofp_sl
theorem slTyTermS : SlTy Try.prog 26 28 (.agg #[.string ByteArray.empty, .slice none 0 0]) 2 40 := ⟨Try.underlying26, by kernel_rfl, rfl, by omega⟩
def zTermS : List CD := [.str ⟨#[]⟩, .sl []]
theorem zTermS_rd (w : World) : RdVs w zTermS [.string ⟨#[]⟩, .slice none 0 0] [] := by
  have h := (RdVs.app (z_str w) (z_sl w))
  exact h
theorem zTermS_nofp : NoFp zTermS := (NoFp.append nofp_str nofp_sl)
def zEqS : List CD := [.str ⟨#[]⟩, .sl [], .str ⟨#[]⟩, .sl []]
theorem zEqS_rd (w : World) : RdVs w zEqS [.string ⟨#[]⟩, .slice none 0 0, .string ⟨#[]⟩, .slice none 0 0] [] := by
  have h := (RdVs.app (z_str w) (RdVs.app (z_sl w) (RdVs.app (z_str w) (z_sl w))))
  exact h
theorem zEqS_nofp : NoFp zEqS := (NoFp.append nofp_str (NoFp.append nofp_sl (NoFp.append nofp_str nofp_sl)))
def zStepS : List CD := [.int 0, .int 0, .int 0]
theorem zStepS_rd (w : World) : RdVs w zStepS [.int .i64 0, .int .i64 0, .int .i64 0] [] := by
  have h := (RdVs.app (z_int w) (RdVs.app (z_int w) (z_int w)))
  exact h
theorem zStepS_nofp : NoFp zStepS := (NoFp.append nofp_int (NoFp.append nofp_int nofp_int))
def zWhyS : List CD := [.int 0, .int 0, .str ⟨#[]⟩, .sl [], .sl []]
theorem zWhyS_rd (w : World) : RdVs w zWhyS [.int .i64 0, .int .i64 0, .string ⟨#[]⟩, .slice none 0 0, .slice none 0 0] [] := by
  have h := (RdVs.app (z_int w) (RdVs.app (z_int w) (RdVs.app (z_str w) (RdVs.app (z_sl w) (z_sl w)))))
  exact h
theorem zWhyS_nofp : NoFp zWhyS := (NoFp.append nofp_int (NoFp.append nofp_int (NoFp.append nofp_str (NoFp.append nofp_sl nofp_sl))))
theorem slTyAtomS : SlTy Try.prog 74 31 (.agg #[.int .i64 0, .string ByteArray.empty, .slice none 0 0, .string ByteArray.empty, .slice none 0 0, .slice none 0 0, .slice none 0 0, .int .i64 0, .bool false]) 9 152 := ⟨Try.underlying74, by kernel_rfl, rfl, by omega⟩
def zAtomS : List CD := [.int 0, .str ⟨#[]⟩, .sl [], .str ⟨#[]⟩, .sl [], .sl [], .sl [], .int 0, .bool false]
theorem zAtomS_rd (w : World) : RdVs w zAtomS [.int .i64 0, .string ⟨#[]⟩, .slice none 0 0, .string ⟨#[]⟩, .slice none 0 0, .slice none 0 0, .slice none 0 0, .int .i64 0, .bool false] [] := by
  have h := (RdVs.app (z_int w) (RdVs.app (z_str w) (RdVs.app (z_sl w) (RdVs.app (z_str w) (RdVs.app (z_sl w) (RdVs.app (z_sl w) (RdVs.app (z_sl w) (RdVs.app (z_int w) (z_bool w)))))))))
  exact h
theorem zAtomS_nofp : NoFp zAtomS := (NoFp.append nofp_int (NoFp.append nofp_str (NoFp.append nofp_sl (NoFp.append nofp_str (NoFp.append nofp_sl (NoFp.append nofp_sl (NoFp.append nofp_sl (NoFp.append nofp_int nofp_bool))))))))
theorem slTyLitS : SlTy Try.prog 138 37 (.agg #[.int .i64 0, .string ByteArray.empty, .slice none 0 0, .string ByteArray.empty, .slice none 0 0, .slice none 0 0, .slice none 0 0, .int .i64 0, .bool false, .bool false]) 10 160 := ⟨Try.underlying138, by kernel_rfl, rfl, by omega⟩
def zLitS : List CD := [.int 0, .str ⟨#[]⟩, .sl [], .str ⟨#[]⟩, .sl [], .sl [], .sl [], .int 0, .bool false, .bool false]
theorem zLitS_rd (w : World) : RdVs w zLitS [.int .i64 0, .string ⟨#[]⟩, .slice none 0 0, .string ⟨#[]⟩, .slice none 0 0, .slice none 0 0, .slice none 0 0, .int .i64 0, .bool false, .bool false] [] := by
  have h := (RdVs.app (z_int w) (RdVs.app (z_str w) (RdVs.app (z_sl w) (RdVs.app (z_str w) (RdVs.app (z_sl w) (RdVs.app (z_sl w) (RdVs.app (z_sl w) (RdVs.app (z_int w) (RdVs.app (z_bool w) (z_bool w))))))))))
  exact h
theorem zLitS_nofp : NoFp zLitS := (NoFp.append nofp_int (NoFp.append nofp_str (NoFp.append nofp_sl (NoFp.append nofp_str (NoFp.append nofp_sl (NoFp.append nofp_sl (NoFp.append nofp_sl (NoFp.append nofp_int (NoFp.append nofp_bool nofp_bool)))))))))
theorem slTyFormS : SlTy Try.prog 41 43 (.agg #[.int .i64 0, .int .i64 0, .string ByteArray.empty, .slice none 0 0, .string ByteArray.empty, .slice none 0 0, .slice none 0 0, .slice none 0 0, .int .i64 0, .bool false, .bool false, .slice none 0 0]) 12 192 := ⟨Try.underlying41, by kernel_rfl, rfl, by omega⟩
def zFormS : List CD := [.int 0, .int 0, .str ⟨#[]⟩, .sl [], .str ⟨#[]⟩, .sl [], .sl [], .sl [], .int 0, .bool false, .bool false, .sl []]
theorem zFormS_rd (w : World) : RdVs w zFormS [.int .i64 0, .int .i64 0, .string ⟨#[]⟩, .slice none 0 0, .string ⟨#[]⟩, .slice none 0 0, .slice none 0 0, .slice none 0 0, .int .i64 0, .bool false, .bool false, .slice none 0 0] [] := by
  have h := (RdVs.app (z_int w) (RdVs.app (z_int w) (RdVs.app (z_str w) (RdVs.app (z_sl w) (RdVs.app (z_str w) (RdVs.app (z_sl w) (RdVs.app (z_sl w) (RdVs.app (z_sl w) (RdVs.app (z_int w) (RdVs.app (z_bool w) (RdVs.app (z_bool w) (z_sl w))))))))))))
  exact h
theorem zFormS_nofp : NoFp zFormS := (NoFp.append nofp_int (NoFp.append nofp_int (NoFp.append nofp_str (NoFp.append nofp_sl (NoFp.append nofp_str (NoFp.append nofp_sl (NoFp.append nofp_sl (NoFp.append nofp_sl (NoFp.append nofp_int (NoFp.append nofp_bool (NoFp.append nofp_bool nofp_sl)))))))))))
def zCaseS : List CD := [.int 0, .int 0, .int 0, .int 0, .str ⟨#[]⟩, .sl [], .sl [], .sl [], .str ⟨#[]⟩, .sl [], .str ⟨#[]⟩, .sl [], .sl []]
theorem zCaseS_rd (w : World) : RdVs w zCaseS [.int .i64 0, .int .i64 0, .int .i64 0, .int .i64 0, .string ⟨#[]⟩, .slice none 0 0, .slice none 0 0, .slice none 0 0, .string ⟨#[]⟩, .slice none 0 0, .string ⟨#[]⟩, .slice none 0 0, .slice none 0 0] [] := by
  have h := (RdVs.app (z_int w) (RdVs.app (z_int w) (RdVs.app (z_int w) (RdVs.app (z_int w) (RdVs.app (z_str w) (RdVs.app (z_sl w) (RdVs.app (z_sl w) (RdVs.app (z_sl w) (RdVs.app (z_str w) (RdVs.app (z_sl w) (RdVs.app (z_str w) (RdVs.app (z_sl w) (z_sl w)))))))))))))
  exact h
theorem zCaseS_nofp : NoFp zCaseS := (NoFp.append nofp_int (NoFp.append nofp_int (NoFp.append nofp_int (NoFp.append nofp_int (NoFp.append nofp_str (NoFp.append nofp_sl (NoFp.append nofp_sl (NoFp.append nofp_sl (NoFp.append nofp_str (NoFp.append nofp_sl (NoFp.append nofp_str (NoFp.append nofp_sl nofp_sl))))))))))))
def zLemmaS : List CD := [.sl [], .int 0, .int 0, .int 0, .int 0, .str ⟨#[]⟩, .sl [], .sl [], .sl [], .str ⟨#[]⟩, .sl [], .str ⟨#[]⟩, .sl [], .sl []]
theorem zLemmaS_rd (w : World) : RdVs w zLemmaS [.slice none 0 0, .int .i64 0, .int .i64 0, .int .i64 0, .int .i64 0, .string ⟨#[]⟩, .slice none 0 0, .slice none 0 0, .slice none 0 0, .string ⟨#[]⟩, .slice none 0 0, .string ⟨#[]⟩, .slice none 0 0, .slice none 0 0] [] := by
  have h := (RdVs.app (z_sl w) (RdVs.app (z_int w) (RdVs.app (z_int w) (RdVs.app (z_int w) (RdVs.app (z_int w) (RdVs.app (z_str w) (RdVs.app (z_sl w) (RdVs.app (z_sl w) (RdVs.app (z_sl w) (RdVs.app (z_str w) (RdVs.app (z_sl w) (RdVs.app (z_str w) (RdVs.app (z_sl w) (z_sl w))))))))))))))
  exact h
theorem zLemmaS_nofp : NoFp zLemmaS := (NoFp.append nofp_sl (NoFp.append nofp_int (NoFp.append nofp_int (NoFp.append nofp_int (NoFp.append nofp_int (NoFp.append nofp_str (NoFp.append nofp_sl (NoFp.append nofp_sl (NoFp.append nofp_sl (NoFp.append nofp_str (NoFp.append nofp_sl (NoFp.append nofp_str (NoFp.append nofp_sl nofp_sl)))))))))))))
def zPaperS : List CD := [.sl [], .sl []]
theorem zPaperS_rd (w : World) : RdVs w zPaperS [.slice none 0 0, .slice none 0 0] [] := by
  have h := (RdVs.app (z_sl w) (z_sl w))
  exact h
theorem zPaperS_nofp : NoFp zPaperS := (NoFp.append nofp_sl nofp_sl)
def zStackS : List CD := [.sl [], .sl []]
theorem zStackS_rd (w : World) : RdVs w zStackS [.slice none 0 0, .slice none 0 0] [] := by
  have h := (RdVs.app (z_sl w) (z_sl w))
  exact h
theorem zStackS_nofp : NoFp zStackS := (NoFp.append nofp_sl nofp_sl)
def zCnfS : List CD := [.int 0, .sl []]
theorem zCnfS_rd (w : World) : RdVs w zCnfS [.int .i64 0, .slice none 0 0] [] := by
  have h := (RdVs.app (z_int w) (z_sl w))
  exact h
theorem zCnfS_nofp : NoFp zCnfS := (NoFp.append nofp_int nofp_sl)
def zLinS : List CD := [.sl [], .int 0, .bool false]
theorem zLinS_rd (w : World) : RdVs w zLinS [.slice none 0 0, .int .i64 0, .bool false] [] := by
  have h := (RdVs.app (z_sl w) (RdVs.app (z_int w) (z_bool w)))
  exact h
theorem zLinS_nofp : NoFp zLinS := (NoFp.append nofp_sl (NoFp.append nofp_int nofp_bool))
def zRatS : List CD := [.int 0, .int 0]
theorem zRatS_rd (w : World) : RdVs w zRatS [.int .i64 0, .int .i64 0] [] := by
  have h := (RdVs.app (z_int w) (z_int w))
  exact h
theorem zRatS_nofp : NoFp zRatS := (NoFp.append nofp_int nofp_int)
def zRowS : List CD := [.str ⟨#[]⟩, .sl [], .int 0, .int 0]
theorem zRowS_rd (w : World) : RdVs w zRowS [.string ⟨#[]⟩, .slice none 0 0, .int .i64 0, .int .i64 0] [] := by
  have h := (RdVs.app (z_str w) (RdVs.app (z_sl w) (RdVs.app (z_int w) (z_int w))))
  exact h
theorem zRowS_nofp : NoFp zRowS := (NoFp.append nofp_str (NoFp.append nofp_sl (NoFp.append nofp_int nofp_int)))
def zModelS : List CD := [.sl []]
theorem zModelS_rd (w : World) : RdVs w zModelS [.slice none 0 0] [] := by
  have h := (z_sl w)
  exact h
theorem zModelS_nofp : NoFp zModelS := nofp_sl
end Go.Proofs.Ytlhochahokbonaa
