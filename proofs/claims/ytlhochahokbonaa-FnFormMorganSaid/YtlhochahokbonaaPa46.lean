/- Parts of the proof: FormL. -/
import Derived.Test.YtlhochahokbonaaPa21
import Derived.Test.YtlhochahokbonaaPa45
namespace Go.Proofs.Ytlhochahokbonaa
open Go Go.RowKit
set_option linter.unusedVariables false
set_option linter.unusedSimpArgs false
def notF (f : Fm) : Fm := .mk 2 ⟨Atm.zero, false⟩ [f]
def binF (k : Int) (f g : Fm) : Fm := .mk k ⟨Atm.zero, false⟩ [f, g]
theorem add_not (l : List Atm) (f : Fm) : Fm.add l (notF f) = Fm.add l f := by simp [notF, Fm.add, Fm.adds]
theorem add_bin (l : List Atm) {k : Int} (hk : k ≠ 1) (f g : Fm) : Fm.add l (binF k f g) = Fm.add (Fm.add l f) g := by simp [binF, Fm.add, Fm.adds, hk]
theorem holds_not (p : Atm → Bool) (f : Fm) : Fm.holds p (notF f) = !Fm.holds p f := by simp [notF, Fm.holds, Fm.holdsL, joinB]
theorem holds_bin (p : Atm → Bool) {k : Int} (hk : k ≠ 1) (f g : Fm) : Fm.holds p (binF k f g) = joinB k (Fm.holds p f) (Fm.holds p g) := by simp [binF, Fm.holds, Fm.holdsL, hk]
theorem isF_true {f : Fm} {bs : List Bool} {a : Bool} (h : isF f bs = (a, true)) : f.okF = true ∧ a = Fm.holds (valA (Fm.add [] f) bs) f := by
  unfold isF at h
  split at h
  · rename_i hc
    simp only [Prod.mk.injEq, and_true] at h
    exact ⟨hc.1, h.symm⟩
  · simp at h
theorem not_law {f : Fm} {bs : List Bool} {so t : Bool} (h : isF f bs = (so, true)) (h' : isF (notF f) bs = (t, true)) : t = !so := by
  rw [(isF_true h).2, (isF_true h').2, add_not, holds_not]
theorem twice_law {f : Fm} {bs : List Bool} {so t : Bool} (h : isF f bs = (so, true)) (h' : isF (notF (notF f)) bs = (t, true)) : t = so := by
  rw [(isF_true h).2, (isF_true h').2, add_not, add_not, holds_not, holds_not, Bool.not_not]
mutual
theorem Fm.add_idem : ∀ (f : Fm) (d : Nat) (l : List Atm), Fm.shape d f = true → Fm.has l f = true → Fm.add l f = l
  | .mk kind lit kids, d, l, hs, hh => by
    obtain ⟨_, hn, hk⟩ := Fm.shape_parts hs
    have hn' : Fm.nk kind = (kids.length : Int) := hn
    simp only [Fm.add]
    by_cases h1 : kind = 1
    · have h2 : hasA l lit.atom = true := Fm.has_lit hh h1
      have h3 : kids = [] := List.eq_nil_of_length_eq_zero (by have := Fm.nk_zero.2 h1; omega)
      rw [if_neg (by simp [h2]), h3]
      simp [Fm.adds]
    · rw [if_neg (by simp [h1])]
      have ha : ∀ x ∈ kids, Fm.shape (d - 1) x = true := hk h1
      have hb : ∀ x ∈ kids, Fm.has l x = true := Fm.has_kids hh h1
      exact Fm.adds_idem kids (d - 1) l (by rw [Fm.shapes_all, List.all_eq_true]; exact ha) (by rw [Fm.hass_all, List.all_eq_true]; exact hb)
theorem Fm.adds_idem : ∀ (ks : List Fm) (d : Nat) (l : List Atm), Fm.shapes d ks = true → Fm.hass l ks = true → Fm.adds l ks = l
  | [], d, l, _, _ => by simp [Fm.adds]
  | k :: ks, d, l, hs, hh => by
    simp only [Fm.shapes, Fm.hass, Bool.and_eq_true] at hs hh
    simp only [Fm.adds]
    rw [Fm.add_idem k d l hs.1 hh.1]
    exact Fm.adds_idem ks d l hs.2 hh.2
end
theorem bin_law {f : Fm} {bs : List Bool} {so t : Bool} {k : Int} (hk : k ≠ 1) (h : isF f bs = (so, true)) (h' : isF (binF k f f) bs = (t, true)) : t = joinB k so so := by
  have h1 := (isF_true h).1
  rw [(isF_true h).2, (isF_true h').2, add_bin [] hk, Fm.add_idem f 5 _ (Fm.okF_shape h1) (Fm.okF_has h1), holds_bin _ hk]
theorem bin_kids {f : Fm} {bs : List Bool} {so : Bool} (h : isF f bs = (so, true)) (hk : f.kind = 3 ∨ f.kind = 4) : ∃ x y, f.kids = [x, y] := by
  have h1 := (Fm.shape_parts (Fm.okF_shape (isF_true h).1)).2.1
  have h2 : Fm.nk f.kind = 2 := by rcases hk with h | h <;> rw [h] <;> decide
  rw [h2] at h1
  match hm : f.kids with
  | [x, y] => exact ⟨x, y, rfl⟩
  | [] => rw [hm] at h1; simp at h1
  | [_] => rw [hm] at h1; simp at h1
  | _ :: _ :: _ :: _ => rw [hm] at h1; simp at h1; omega
theorem morgan_law {f : Fm} {bs : List Bool} {so t : Bool} {x y : Fm} (hk : f.kind = 3 ∨ f.kind = 4) (hm : f.kids = [x, y]) (h : isF f bs = (so, true)) (h' : isF (binF (7 - f.kind) (notF x) (notF y)) bs = (t, true)) : t = !so := by
  have hk1 : f.kind ≠ 1 := by omega
  have e : Fm.add [] f = Fm.add (Fm.add [] x) y := by rw [Fm.add_eq, if_neg (by simp [hk1]), hm]; simp [Fm.adds]
  rw [(isF_true h).2, (isF_true h').2, add_bin [] (by omega), add_not, add_not, holds_bin _ (by omega), holds_not, holds_not, e, Fm.holds_eq _ f, if_neg hk1, hm]
  simp only [List.map_cons, List.map_nil, List.getD_cons_zero, List.getD_cons_succ]
  generalize Fm.holds (valA (Fm.add (Fm.add [] x) y) bs) x = a
  generalize Fm.holds (valA (Fm.add (Fm.add [] x) y) bs) y = b
  rcases hk with h | h <;> rw [h] <;> cases a <;> cases b <;> decide
theorem not_wt (f : Fm) : wtV (notF f).cd = 1 + wtV f.cd := by rw [notF, inner_wt]; simp [wtR]
theorem bin_wt (k : Int) (f g : Fm) : wtV (binF k f g).cd = 2 + (wtV f.cd + wtV g.cd) := by rw [binF, inner_wt]; simp [wtR]
theorem kid_wt {f x : Fm} (h : x ∈ f.kids) : wtV x.cd ≤ wtV f.cd := by
  have h1 := Fm.wt_eq f
  have h2 := wtR_mem (cd := Fm.cd) h
  omega
theorem fm_mk {w : World} {ks : List Fm} {k : Int} {xa : Option Addr} {xc : Nat} {fk : List Nat} (hk : I64 k) (h : Rd w (.sl (ks.map Fm.cd)) (.slice xa ks.length xc) fk) : RdVs w (Fm.mk k ⟨Atm.zero, false⟩ ks).cd [.int .i64 k, .int .i64 0, .string ⟨#[]⟩, .slice none 0 0, .string ⟨#[]⟩, .slice none 0 0, .slice none 0 0, .slice none 0 0, .int .i64 0, .bool false, .bool false, .slice xa ks.length xc] fk := by
  have h1 := Fm.close (x := Fm.mk k ⟨Atm.zero, false⟩ ks) (f3 := []) (f5 := []) (f6 := []) (f7 := []) hk (by unfold I64; simp [Fm.lit, Atm.zero]) (Nat.zero_le _) (rd_nil9 (cd := Tm.cd) (w := w) none 0 (by simp)) (Nat.zero_le _) (rd_nil9 (cd := Tm.cd) (w := w) none 0 (by simp)) (rd_nil9 (cd := Tm.cd) (w := w) none 0 (by simp)) (rd_nil9 (cd := intCd) (w := w) none 0 (by simp)) (by unfold I64; simp [Fm.lit, Atm.zero]) h
  exact h1
theorem kids1 {w : World} {f : Fm} {vs : List Value} {ff : List Nat} (h : RdVs w f.cd vs ff) (T : TypeId) : Rd (w.alloc (.cells vs.toArray T)) (.sl ([f].map Fm.cd)) (.slice (some ⟨w.heap.size, 0, none⟩) 1 1) (w.heap.size :: ff) :=
  rd_block (k := 12) (cells_new' w vs T) (by simpa using h.below (below_alloc _ _)) (by simp) (by simp) (by simp) (by omega) (by simp)
theorem kids2 {w : World} {f g : Fm} {vs us : List Value} {ff fg : List Nat} (h : RdVs w f.cd vs ff) (h' : RdVs w g.cd us fg) (T : TypeId) : Rd (w.alloc (.cells (vs ++ us).toArray T)) (.sl ([f, g].map Fm.cd)) (.slice (some ⟨w.heap.size, 0, none⟩) 2 2) (w.heap.size :: (ff ++ fg)) :=
  rd_block (k := 12) (cells_new' w (vs ++ us) T) (by simpa using (h.below (below_alloc _ _)).app (h'.below (below_alloc _ _))) (by simp) (by simp) (by simp) (by omega) (by simp)
end Go.Proofs.Ytlhochahokbonaa
