/- The row of classes that a call has made and goes on writing. -/
import Derived.Test.YtblbommhodondaaReads
import Derived.Test.YtblbommhodondaaClo
import Derived.Laws.OwnMore
namespace Go.Proofs.Ytblbommhodondaa
open Go Go.RowKit
set_option linter.unusedVariables false
set_option linter.unusedSimpArgs false

theorem ints_rdv {w : World} : ∀ (l : List Int) (vs : List Value) (f : List Nat), RdVs w (l.map intCd).flatten vs f → vs = l.map (Value.int .i64) ∧ f = [] ∧ ∀ x ∈ l, I64 x
  | [], vs, f, h => by simp [RdVs] at h; simp [h]
  | x :: l, vs, f, h => by
    simp only [List.map_cons, List.flatten_cons] at h
    obtain ⟨us, us', g, g', rfl, rfl, h1, h2⟩ := h.split
    obtain ⟨h3, h4, h5⟩ := ints_rdv l _ _ h2
    obtain ⟨v, rfl, hr⟩ := RdVs.one_inv h1
    obtain ⟨rfl, hi, rfl⟩ := rd_int_inv hr
    refine ⟨by rw [h3]; rfl, by rw [h4]; rfl, fun y hy => ?_⟩
    rcases List.mem_cons.1 hy with rfl | hy
    · exact hi
    · exact h5 y hy
theorem ints_rdv_mk {w : World} : ∀ (l : List Int), (∀ x ∈ l, I64 x) → RdVs w (l.map intCd).flatten (l.map (Value.int .i64)) []
  | [], _ => by simp [RdVs]
  | x :: l, h => by
    have h1 : RdVs w (intCd x) [Value.int .i64 x] [] := RdVs.single (by simp only [Rd]; exact ⟨trivial, h x (by simp), trivial⟩)
    exact h1.app (ints_rdv_mk l fun y hy => h y (by simp [hy]))

/-- A row of numbers of the call's own. -/
def IRow (w : World) (B : Nat) (v : Value) (l : List Int) : Prop := Own w B 3 1 v (l.map intCd) []
theorem IRow.raw {w : World} {B : Nat} {v : Value} {l : List Int} (h : IRow w B v l) : w.ownsRow B 3 1 v l.length (l.map (Value.int .i64)) ∧ ∀ x ∈ l, I64 x := by
  obtain ⟨xs, h1, h2, _, _⟩ := h
  obtain ⟨rfl, _, h3⟩ := ints_rdv _ _ _ h2
  exact ⟨by simpa using h1, h3⟩
theorem IRow.mk {w : World} {B : Nat} {v : Value} {l : List Int} (h : w.ownsRow B 3 1 v l.length (l.map (Value.int .i64))) (h2 : ∀ x ∈ l, I64 x) : IRow w B v l :=
  ⟨_, by simpa using h, ints_rdv_mk l h2, by simp only [List.mem_map]; rintro x ⟨y, _, rfl⟩; rfl, by simp⟩
theorem IRow.below {w w' : World} {B : Nat} {v : Value} {l : List Int} (h : IRow w B v l) (hb : Below w.heap.size w w') : IRow w' B v l := Own.below h hb
theorem IRow.form {w : World} {B : Nat} {v : Value} {l : List Int} (h : IRow w B v l) (hl : 0 < l.length) : ∃ g c, v = .slice (some ⟨g, 0, none⟩) l.length c ∧ B ≤ g ∧ g < w.heap.size ∧ l.length ≤ c := by
  obtain ⟨h1, _⟩ := h.raw
  rcases h1.2 with ⟨_, h0⟩ | ⟨g, c, cur, rfl, hbg, hg, hnc, hcm, hcs, htk⟩
  · omega
  · exact ⟨g, c, rfl, hbg, (h1.lt g rfl).2, hnc⟩
theorem IRow.cell {w : World} {B g n c : Nat} {l : List Int} (h : IRow w B (.slice (some ⟨g, 0, none⟩) n c) l) {k : Nat} (hk : k < l.length) : w.cell? ⟨g, k, none⟩ = some (.int .i64 l[k]) ∧ I64 l[k] := by
  obtain ⟨h1, h2⟩ := h.raw
  have := h1.cells (g := g) rfl k (.int .i64 l[k]) (by simp [hk])
  rw [Addr.add_lit] at this
  exact ⟨by simpa using this, h2 _ (List.getElem_mem hk)⟩
theorem IRow.free {w : World} {B g n c : Nat} {l : List Int} (h : IRow w B (.slice (some ⟨g, 0, none⟩) n c) l) (j : Nat) : w.frozen? ⟨g, j, none⟩ = false := by
  obtain ⟨h1, _⟩ := h.raw
  have e : n = l.length := by
    rcases h1.2 with ⟨h, _⟩ | ⟨_, _, _, h, _⟩
    · simp at h
    · simp only [Value.slice.injEq] at h; exact h.2.1
  subst e
  exact h1.frozenAt j
theorem IRow.set {w : World} {B g n c : Nat} {l : List Int} (h : IRow w B (.slice (some ⟨g, 0, none⟩) n c) l) (k : Nat) {x : Int} (hx : I64 x) :
    IRow (w.setCell ⟨g, k, none⟩ (.int .i64 x)) B (.slice (some ⟨g, 0, none⟩) n c) (l.set k x) ∧ Moved w (.slice (some ⟨g, 0, none⟩) n c) (w.setCell ⟨g, k, none⟩ (.int .i64 x)) (.slice (some ⟨g, 0, none⟩) n c) := by
  obtain ⟨h1, h2⟩ := h.raw
  have e : n = l.length := by
    rcases h1.2 with ⟨h, _⟩ | ⟨_, _, _, h, _⟩
    · simp at h
    · simp only [Value.slice.injEq] at h; exact h.2.1
  subst e
  obtain ⟨h3, h4⟩ := h1.stored k (.int .i64 x)
  refine ⟨IRow.mk (by rw [List.length_set, List.map_set]; exact h3) (fun y hy => ?_), h4, fun b hb => .inl hb⟩
  rcases List.mem_or_eq_of_mem_set hy with hy | rfl
  · exact h2 y hy
  · exact hx

/-- Classes, as numbers. -/
def nats (c : List Nat) : List Int := c.map (fun (n : Nat) => (n : Int))
theorem nats_len (c : List Nat) : (nats c).length = c.length := by simp [nats]
namespace Clo
theorem cl_get {c : List Nat} {i : Nat} (h : i < c.length) : cl c i = c[i] := by unfold cl; rw [List.getD_eq_getElem?_getD, List.getElem?_eq_getElem h]; rfl
theorem nats_get {c : List Nat} {i : Nat} (h : i < c.length) : (nats c)[i]'(by rw [nats_len]; exact h) = (cl c i : Nat) := by
  rw [cl_get h]; simp [nats]
/-- In the midst of the joining. -/
def mid (c : List Nat) (f t i : Nat) : List Nat := ((c.take i).map fun k => if k = f then t else k) ++ c.drop i
theorem mid_zero (c : List Nat) (f t : Nat) : mid c f t 0 = c := by simp [mid]
theorem mid_len (c : List Nat) (f t i : Nat) : (mid c f t i).length = c.length := by simp [mid]; omega
theorem mid_at {c : List Nat} {f t i : Nat} (h : i < c.length) : cl (mid c f t i) i = cl c i := by
  unfold cl mid
  rw [List.getD_eq_getElem?_getD, List.getD_eq_getElem?_getD, List.getElem?_append_right (by simp; omega)]
  congr 1
  simp [Nat.min_eq_left (Nat.le_of_lt h)]
theorem mid_yes {c : List Nat} {f t i : Nat} (h : i < c.length) (he : cl c i = f) : mid c f t (i + 1) = (mid c f t i).set i t := by
  unfold mid
  rw [cl_get h] at he
  rw [List.take_succ_eq_append_getElem h, List.drop_eq_getElem_cons h, List.map_append, List.set_append_right _ _ (by simp; omega)]
  simp [Nat.min_eq_left (Nat.le_of_lt h), he]
theorem mid_no {c : List Nat} {f t i : Nat} (h : i < c.length) (he : cl c i ≠ f) : mid c f t (i + 1) = mid c f t i := by
  unfold mid
  rw [cl_get h] at he
  rw [List.take_succ_eq_append_getElem h, List.drop_eq_getElem_cons h]
  simp only [List.map_append, List.map_cons, List.map_nil, if_neg he, List.append_assoc, List.cons_append, List.nil_append]
theorem mid_end {c : List Nat} {a b i : Nat} (h : c.length ≤ i) : mid c (hi c a b) (lo c a b) i = join c a b := by
  unfold mid join
  rw [List.take_of_length_le h, List.drop_eq_nil_of_le h, List.append_nil]
end Clo
theorem nats_set (c : List Nat) (i n : Nat) : (nats c).set i (n : Int) = nats (c.set i n) := by simp [nats, List.map_set]
theorem I64_nat {n : Nat} (h : n ≤ 1000000000) : I64 (n : Int) := ⟨by omega, by omega⟩
end Go.Proofs.Ytblbommhodondaa
