/- Parts of the proof: HoldP Rdr3 Rdr4 Rdr5. -/
import Derived.Test.YtlhochahokbonaaPa20
import Derived.Test.YtlhochahokbonaaPa4
import Derived.Test.YtlhochahokbonaaPa6
import Derived.Test.YtlhochahokbonaaPa7
import Derived.Deep.RegionLaw
import Derived.Test.YtlhochahokbonaaPa10
import Derived.Test.YtlhochahokbonaaPa8
import Derived.Deep.RegionHeld3
import Derived.Deep.CutRange
namespace Go.Proofs.Ytlhochahokbonaa
open Go Go.RowKit
set_option linter.unusedVariables false
set_option linter.unusedSimpArgs false
def valA : List Atm → List Bool → Atm → Bool
  | y :: l, b :: vs, x => if eqV y.cd x.cd = true then b else valA l vs x
  | _, _, _ => false
theorem valA_at : ∀ (l : List Atm) (vs : List Bool) (x : Atm) (k : Nat) (h : k < l.length) (h' : k < vs.length), eqV l[k].cd x.cd = true → (l.take k).all (fun t => !eqV t.cd x.cd) = true → valA l vs x = vs[k]
  | [], _, _, k, h, _, _, _ => absurd h (by simp)
  | y :: l, [], _, k, _, h', _, _ => absurd h' (by simp)
  | y :: l, b :: vs, x, 0, _, _, e, _ => by simp only [List.getElem_cons_zero] at e ⊢; simp [valA, e]
  | y :: l, b :: vs, x, k + 1, h, h', e, ha => by
    simp only [List.take_succ_cons, List.all_cons, Bool.and_eq_true, Bool.not_eq_true'] at ha
    simp only [List.getElem_cons_succ] at e ⊢
    rw [← valA_at l vs x k (by simpa using h) (by simpa using h') e ha.2]
    simp [valA, ha.1]
theorem valA_first {l : List Atm} {vs : List Bool} {x : Atm} {n : Int} (hl : l.length = vs.length) (h : FirstOf (fun y => eqV y.cd x.cd) l n) (hx : hasA l x = true) : ∃ (k : Nat) (h : k < vs.length), n = k ∧ valA l vs x = vs[k] := by
  have h0 := h.neg
  rcases h with ⟨rfl, h⟩ | ⟨k, hk, rfl, hp, ha⟩
  · have := h0.1 (by omega); rw [hx] at this; simp at this
  · exact ⟨k, by omega, rfl, valA_at l vs x k hk (by omega) hp ha⟩
def joinB (kind : Int) (a b : Bool) : Bool := if kind = 2 then !a else if kind = 3 then a && b else if kind = 4 then a || b else if kind = 5 then !a || b else a == b
mutual
def Fm.holds (p : Atm → Bool) : Fm → Bool
  | .mk kind lit kids => if kind = 1 then p lit.atom != lit.no else joinB kind ((Fm.holdsL p kids).getD 0 false) ((Fm.holdsL p kids).getD 1 false)
def Fm.holdsL (p : Atm → Bool) : List Fm → List Bool
  | [] => []
  | k :: ks => Fm.holds p k :: Fm.holdsL p ks
end
theorem Fm.holdsL_map (p : Atm → Bool) : ∀ (ks : List Fm), Fm.holdsL p ks = ks.map (Fm.holds p)
  | [] => by simp [Fm.holdsL]
  | k :: ks => by simp only [Fm.holdsL, List.map_cons, Fm.holdsL_map p ks]
theorem Fm.holds_eq (p : Atm → Bool) (f : Fm) : Fm.holds p f = if f.kind = 1 then p f.lit.atom != f.lit.no else joinB f.kind ((f.kids.map (Fm.holds p)).getD 0 false) ((f.kids.map (Fm.holds p)).getD 1 false) := by
  cases f; simp only [Fm.holds, Fm.kind, Fm.lit, Fm.kids, Fm.holdsL_map]; rfl
mutual
def Fm.has (l : List Atm) : Fm → Bool
  | .mk kind lit kids => if kind = 1 then hasA l lit.atom else Fm.hass l kids
def Fm.hass (l : List Atm) : List Fm → Bool
  | [] => true
  | k :: ks => Fm.has l k && Fm.hass l ks
end
theorem Fm.hass_all (l : List Atm) : ∀ (ks : List Fm), Fm.hass l ks = ks.all (Fm.has l)
  | [] => by simp [Fm.hass]
  | k :: ks => by simp only [Fm.hass, List.all_cons, Fm.hass_all l ks]
theorem Fm.has_eq (l : List Atm) (f : Fm) : Fm.has l f = if f.kind = 1 then hasA l f.lit.atom else f.kids.all (Fm.has l) := by
  cases f; simp only [Fm.has, Fm.kind, Fm.lit, Fm.kids, Fm.hass_all]; rfl
theorem hasA_mono {l l' : List Atm} {x : Atm} (h : ∀ y ∈ l, y ∈ l') (hx : hasA l x = true) : hasA l' x = true := by
  unfold hasA at hx ⊢
  rw [List.any_eq_true] at hx ⊢
  obtain ⟨y, hy, e⟩ := hx
  exact ⟨y, h y hy, e⟩
mutual
theorem Fm.add_sub : ∀ (f : Fm) (l : List Atm), ∀ y ∈ l, y ∈ Fm.add l f
  | .mk kind lit kids, l, y, hy => by
    simp only [Fm.add]
    split
    · exact List.mem_append_left _ hy
    · exact Fm.adds_sub kids l y hy
theorem Fm.adds_sub : ∀ (ks : List Fm) (l : List Atm), ∀ y ∈ l, y ∈ Fm.adds l ks
  | [], l, y, hy => by simpa [Fm.adds] using hy
  | k :: ks, l, y, hy => by
    simp only [Fm.adds]
    exact Fm.adds_sub ks _ y (Fm.add_sub k l y hy)
end
mutual
theorem Fm.has_mono : ∀ (f : Fm) {l l' : List Atm}, (∀ y ∈ l, y ∈ l') → Fm.has l f = true → Fm.has l' f = true
  | .mk kind lit kids, l, l', h, hf => by
    simp only [Fm.has] at hf ⊢
    split at hf
    · rename_i hk; rw [if_pos hk]; exact hasA_mono h hf
    · rename_i hk; rw [if_neg hk]; exact Fm.hass_mono kids h hf
theorem Fm.hass_mono : ∀ (ks : List Fm) {l l' : List Atm}, (∀ y ∈ l, y ∈ l') → Fm.hass l ks = true → Fm.hass l' ks = true
  | [], l, l', h, hf => by simp [Fm.hass]
  | k :: ks, l, l', h, hf => by
    simp only [Fm.hass, Bool.and_eq_true] at hf ⊢
    exact ⟨Fm.has_mono k h hf.1, Fm.hass_mono ks h hf.2⟩
end
mutual
theorem Fm.add_has : ∀ (f : Fm) (d : Nat) (l : List Atm), Fm.shape d f = true → Fm.has (Fm.add l f) f = true
  | .mk kind lit kids, d, l, h => by
    simp only [Fm.shape] at h
    split at h
    · simp at h
    rename_i h0
    simp only [not_or, Decidable.not_not] at h0
    simp only [Fm.has, Fm.add]
    by_cases hk : kind = 1
    · subst hk
      have hn : kids.length = 0 := by have := h0.2; simp [Fm.nk] at this; omega
      obtain rfl := List.eq_nil_of_length_eq_zero hn
      cases hh : hasA l lit.atom
      · simp only [hh, true_and, if_true]
        unfold hasA
        rw [List.any_eq_true]
        exact ⟨lit.atom, by simp, by rw [eqV_iff]⟩
      · simp [hh, Fm.adds]
    · rw [if_neg hk] at h
      rw [if_neg hk, if_neg (fun h => hk h.1)]
      simp only [Bool.and_eq_true] at h
      exact Fm.adds_has kids (d - 1) l h.1
theorem Fm.adds_has : ∀ (ks : List Fm) (d : Nat) (l : List Atm), Fm.shapes d ks = true → Fm.hass (Fm.adds l ks) ks = true
  | [], d, l, h => by simp [Fm.hass]
  | k :: ks, d, l, h => by
    simp only [Fm.shapes, Bool.and_eq_true] at h
    simp only [Fm.adds, Fm.hass, Bool.and_eq_true]
    exact ⟨Fm.has_mono k (fun y hy => Fm.adds_sub ks _ y hy) (Fm.add_has k d l h.1), Fm.adds_has ks d _ h.2⟩
end
theorem Fm.okF_shape {f : Fm} (h : f.okF = true) : Fm.shape 5 f = true := by
  rw [Fm.okF_right] at h
  simp only [Fm.rightF, Bool.and_eq_true] at h
  exact h.1.1
theorem Fm.okF_has {f : Fm} (h : f.okF = true) : Fm.has (Fm.add [] f) f = true := Fm.add_has f 5 [] (Fm.okF_shape h)
/-- What FormIs answers: the value, and whether there is one. -/
def isF (f : Fm) (vs : List Bool) : Bool × Bool := if f.okF = true ∧ (Fm.add [] f).length = vs.length then (Fm.holds (valA (Fm.add [] f) vs) f, true) else (false, false)
theorem isF_no {f : Fm} {vs : List Bool} (h : f.okF = false) : isF f vs = (false, false) := by unfold isF; rw [if_neg (by simp [h])]
theorem isF_len {f : Fm} {vs : List Bool} (h : ¬ (Fm.add [] f).length = vs.length) : isF f vs = (false, false) := by unfold isF; rw [if_neg (by simp [h])]
theorem isF_yes {f : Fm} {vs : List Bool} (h : f.okF = true) (h' : (Fm.add [] f).length = vs.length) : isF f vs = (Fm.holds (valA (Fm.add [] f) vs) f, true) := if_pos ⟨h, h'⟩
theorem Fm.shape_parts {f : Fm} {d : Nat} (h : Fm.shape d f = true) : 1 ≤ d ∧ Fm.nk f.kind = (f.kids.length : Int) ∧ (¬ f.kind = 1 → ∀ k ∈ f.kids, Fm.shape (d - 1) k = true) := by
  rw [Fm.shape_eq] at h
  split at h
  · simp at h
  rename_i h0
  simp only [not_or, Decidable.not_not] at h0
  refine ⟨by omega, h0.2, fun hk k hm => ?_⟩
  rw [if_neg hk, Fm.shapes_all, Bool.and_eq_true, List.all_eq_true] at h
  exact h.1 k hm
theorem Fm.has_kids {f : Fm} {l : List Atm} (h : Fm.has l f = true) (hk : ¬ f.kind = 1) : ∀ k ∈ f.kids, Fm.has l k = true := by
  rw [Fm.has_eq, if_neg hk, List.all_eq_true] at h
  exact h
theorem Fm.has_lit {f : Fm} {l : List Atm} (h : Fm.has l f = true) (hk : f.kind = 1) : hasA l f.lit.atom = true := by
  rwa [Fm.has_eq, if_pos hk] at h
end Go.Proofs.Ytlhochahokbonaa
namespace Go.Proofs.Ytlhochahokbonaa
open Go Go.RowKit
set_option linter.unusedVariables false
set_option linter.unusedSimpArgs false
theorem rd_block {w : World} {b n c k : Nat} {es : List (List CD)} {vs : List Value} {f : List Nat} (hc : ∀ j u, vs[j]? = some u → w.cell? ⟨b, j, none⟩ = some u) (h : RdVs w es.flatten vs f) (hne : es ≠ []) (hn : n = es.length) (hcap : es.length ≤ c) (hm : c ≤ 9223372036854775807) (hb : b < w.heap.size) :
    Rd w (.sl es) (.slice (some ⟨b, 0, none⟩) n c) (b :: f) := by
  simp only [Rd]
  exact ⟨_, c, by rw [hn], hcap, by simpa [maxLen] using hm, .inr ⟨hne, b, 0, f, rfl, hb, rfl, RdRows.mk (k := k) (fun j u hu => by rw [Nat.zero_add]; exact hc j u hu) h⟩⟩
theorem rd_empty {w : World} {α : Type} {cd : α → List CD} (a : Option Addr) : Rd w (.sl (([] : List α).map cd)) (.slice a 0 0) [] := by
  simp only [List.map_nil, Rd]; exact ⟨a, 0, rfl, by simp, by simp [maxLen], by simp⟩
/-- Words that are drawn: few, of few arguments. -/
def Sg.few (s : Sg) : Prop := s.syms.length ≤ 5 ∧ ∀ y ∈ s.syms, y.args.length ≤ 2
theorem cells_new' (w : World) (vs : List Value) (T : Nat) (j : Nat) (u : Value) (h : vs[j]? = some u) : (w.alloc (.cells vs.toArray T)).cell? ⟨w.heap.size, j, none⟩ = some u := by
  rw [cell_new]; simpa using h
theorem sym0 (w : World) (nm : ByteArray) (k : Int) (h : nm.size ≤ 9223372036854775807) (hk : -9223372036854775808 ≤ k ∧ k ≤ 9223372036854775807) : RdVs w (Sy.cd ⟨nm, [], k⟩) [.string nm, .slice none 0 0, .int .i64 k] [] :=
  Sy.close (x := ⟨nm, [], k⟩) (f1 := []) (by simpa [maxLen] using h) (rd_empty none) hk
theorem rdv_ints {w : World} : ∀ (l : List Int), (∀ x ∈ l, I64 x) → RdVs w (l.map intCd).flatten (l.map (Value.int .i64)) []
  | [], _ => by simp only [List.map_nil, List.flatten_nil, RdVs]; exact ⟨trivial, trivial⟩
  | x :: l, h => by
    have := (RdVs.single (w := w) (d := .int x) (v := .int .i64 x) (fp := []) (by simp only [Rd]; exact ⟨trivial, h x (by simp), trivial⟩)).app (rdv_ints l (fun y hy => h y (by simp [hy])))
    simpa [intCd] using this
theorem sym1 (w : World) (nm : ByteArray) (l : List Int) (k : Int) (b : Nat) (h : nm.size ≤ 9223372036854775807) (hk : -9223372036854775808 ≤ k ∧ k ≤ 9223372036854775807) (hne : l ≠ []) (hl : l.length ≤ 1000) (ha : ∀ x ∈ l, I64 x) (hb : b < w.heap.size)
    (hc : ∀ j u, (l.map (Value.int .i64))[j]? = some u → w.cell? ⟨b, j, none⟩ = some u) : RdVs w (Sy.cd ⟨nm, l, k⟩) [.string nm, .slice (some ⟨b, 0, none⟩) l.length l.length, .int .i64 k] [b] :=
  Sy.close (x := ⟨nm, l, k⟩) (f1 := [b]) (by simpa [maxLen] using h) (rd_block (k := 1) hc (rdv_ints l ha) (by simpa using hne) (by simp) (by simp) (by omega) hb) hk
end Go.Proofs.Ytlhochahokbonaa
namespace Go.Proofs.Ytlhochahokbonaa
open Go Go.RowKit
set_option linter.unusedVariables false
set_option linter.unusedSimpArgs false
theorem Only.undrew {w w' : World} {fp : List Nat} (h : Only fp w.drew w') : Only fp w w' := ⟨h.os, h.tape, h.output, h.size, h.block⟩
theorem Only.set_new {w w' : World} {rb b i : Nat} {u : Value} (h : Only [rb] w w') (hb : w.heap.size ≤ b) : Only [rb] w (w'.setCell ⟨b, i, none⟩ u) :=
  ⟨h.os, h.tape, h.output, by simpa [World.setCell] using h.size, fun q hq hn => (Below.heap_setCell _ _ _ _ (by show q ≠ b; omega)).trans (h.block q hq hn)⟩
theorem Rdr.set {w : World} {rb p b i : Nat} {u : Value} (h : Rdr w rb p) (hb : rb < b) : Rdr (w.setCell ⟨b, i, none⟩ u) rb p := h.same (fun q hq => Below.heap_setCell _ _ _ _ (by show q ≠ b; omega))
theorem Only.free {w w' : World} {rb b i : Nat} {f : Bool} (h : Only [rb] w w') (hc : w.frozen? ⟨b, i, none⟩ = f) (hb : b < w.heap.size) (hne : b ≠ rb) : w'.frozen? ⟨b, i, none⟩ = f := free_block (h.block b hb (by simpa using hne)) hc
theorem carry_only {wr w2 w4 : World} {o : Obj} {row : Option Nat} {b rb : Nat} (ho : Only [rb] wr w2) (hg : (w2.alloc o).grownBy w4 row) (hl : b < wr.heap.size) (hb : b ≠ rb) (hn : row ≠ some b) : w4.heap[b]? = wr.heap[b]? := by
  have h1 : b < w2.heap.size := Nat.lt_of_lt_of_le hl ho.size
  exact ((hg.block b (by simp; omega) (fun e => hn e.symm)).trans ((below_alloc w2 o).block b h1)).trans (ho.block b hl (by simpa using hb))
def pcap : Nat → Nat | 0 => 0 | n + 1 => 1 + 2 * pcap n
theorem Fresh.notin {lo rb : Nat} {w : World} {fp : List Nat} (h : Fresh lo w fp) (hl : rb < lo) : rb ∉ fp := fun hm => by have := (h.2 _ hm).1; omega
theorem Own.set_row {w : World} {base e k : Nat} {v : Value} {es : List (List CD)} {fp : List Nat} (h : Own w base e k v es fp) {b j : Nat} {u : Value} (hb : b < base) (hn : b ∉ fp) : Own (w.setCell ⟨b, j, none⟩ u) base e k v es fp :=
  h.same (sameOn_set (fun x hx (e : x = b) => hn (e ▸ hx))) fun x hx => Below.heap_setCell _ _ _ _ (by have := (h.block hx).1; show x ≠ b; omega)
def Sg.words (s : Sg) (so deep : Int) (k : Nat) : List Sy := (s.syms.take k).filter fun y => (y.sort == so) && (decide (1 < deep) || ((y.args.length : Int) == 0))
theorem Sg.words_yes {s : Sg} {so deep : Int} {k : Nat} (hk : k < s.syms.length) (h : ((s.syms[k].sort == so) && (decide (1 < deep) || ((s.syms[k].args.length : Int) == 0))) = true) : s.words so deep (k + 1) = s.words so deep k ++ [s.syms[k]] := by
  unfold Sg.words; rw [List.take_succ_eq_append_getElem hk, List.filter_append, List.filter_cons, if_pos h, List.filter_nil]
theorem Sg.words_no {s : Sg} {so deep : Int} {k : Nat} (hk : k < s.syms.length) (h : ((s.syms[k].sort == so) && (decide (1 < deep) || ((s.syms[k].args.length : Int) == 0))) = false) : s.words so deep (k + 1) = s.words so deep k := by
  unfold Sg.words; rw [List.take_succ_eq_append_getElem hk, List.filter_append, List.filter_cons, if_neg (by simp [h]), List.filter_nil, List.append_nil]
theorem Sg.words_len (s : Sg) (so deep : Int) (k : Nat) : (s.words so deep k).length ≤ s.syms.length := by
  unfold Sg.words; have h1 := List.length_filter_le (fun y : Sy => (y.sort == so) && (decide (1 < deep) || ((y.args.length : Int) == 0))) (s.syms.take k); have h2 : (s.syms.take k).length ≤ s.syms.length := by simp; omega
  omega
theorem Sg.words_mem {s : Sg} {so deep : Int} {k : Nat} {y : Sy} (h : y ∈ s.words so deep k) : y ∈ s.syms ∧ (0 < y.args.length → 1 < deep) := by
  unfold Sg.words at h
  rw [List.mem_filter] at h
  refine ⟨List.mem_of_mem_take h.1, fun h0 => ?_⟩
  have h2 := h.2
  simp only [Bool.and_eq_true, Bool.or_eq_true, decide_eq_true_eq, beq_iff_eq] at h2
  omega
end Go.Proofs.Ytlhochahokbonaa
namespace Go.Proofs.Ytlhochahokbonaa
open Go Go.RowKit
set_option linter.unusedVariables false
set_option linter.unusedSimpArgs false
/-- Block lb, made after the reader, holds vs, and may be written. -/
def Lst (rb : Nat) (vs : List Value) (lb : Nat) (w : World) : Prop := rb < lb ∧ lb < w.heap.size ∧ (∀ j u, vs[j]? = some u → w.cell? ⟨lb, j, none⟩ = some u) ∧ ∀ j, w.frozen? ⟨lb, j, none⟩ = false
theorem Lst.new {w : World} {rb : Nat} (h : rb < w.heap.size) (vs : List Value) (T : TypeId) : Lst rb vs w.heap.size (w.alloc (.cells vs.toArray T)) :=
  ⟨h, by simp, fun j u hu => cells_new' w vs T j u hu, fun j => free_new _ _ _ _⟩
theorem Lst.new1 {w : World} {rb : Nat} (h : rb < w.heap.size) (o : Obj) (vs : List Value) (T : TypeId) : Lst rb vs (w.heap.size + 1) ((w.alloc o).alloc (.cells vs.toArray T)) := by
  have h1 := Lst.new (w := w.alloc o) (rb := rb) (by rw [World.size_alloc]; omega) vs T
  rw [World.size_alloc] at h1; exact h1
theorem Lst.below {w w' : World} {rb lb : Nat} {vs : List Value} (h : Lst rb vs lb w) (hb : Below w.heap.size w w') : Lst rb vs lb w' :=
  ⟨h.1, Nat.lt_of_lt_of_le h.2.1 hb.size, fun j u hu => cell_keep (h.2.2.1 j u hu) hb, fun j => (free_of_block (hb.block lb h.2.1)).trans (h.2.2.2 j)⟩
theorem Lst.alloc {w : World} {rb lb : Nat} {vs : List Value} (h : Lst rb vs lb w) (o : Obj) : Lst rb vs lb (w.alloc o) := h.below (below_alloc w o)
theorem Only.cellk {w w' : World} {rb b i : Nat} {u : Value} (h : Only [rb] w w') (hc : w.cell? ⟨b, i, none⟩ = some u) (hne : b ≠ rb) : w'.cell? ⟨b, i, none⟩ = some u := h.keep hc (World.block_lt_of_cell? w _ hc) hne
theorem Lst.drew {w : World} {rb lb : Nat} {vs : List Value} (h : Lst rb vs lb w) : Lst rb vs lb w.drew := h
theorem cell_ak {w : World} {o : Obj} {a : Addr} {v : Value} (h : w.cell? a = some v) : (w.alloc o).cell? a = some v := (World.cell?_of_block (w := w) ((below_alloc w o).block a.block (World.block_lt_of_cell? w _ h))).trans h
theorem cell_drew {w : World} {a : Addr} {v : Value} (h : w.cell? a = some v) : w.drew.cell? a = some v := h
theorem Lst.only {w w' : World} {rb lb : Nat} {vs : List Value} (h : Lst rb vs lb w) (ho : Only [rb] w w') : Lst rb vs lb w' :=
  ⟨h.1, Nat.lt_of_lt_of_le h.2.1 ho.size, fun j u hu => ho.cellk (h.2.2.1 j u hu) (by have := h.1; omega), fun j => ho.free (h.2.2.2 j) h.2.1 (by have := h.1; omega)⟩
theorem Lst.use {G : Prop} {w w' : World} {rb lb : Nat} {vs : List Value} (ho : Only [rb] w w') (h : Lst rb vs lb w) (k : lb < w.heap.size → Lst rb vs lb w' → G) : G := k h.2.1 (h.only ho)
theorem num_l (xs : List Int) (vs : List Value) (hv : vs = xs.map (Value.int .i64)) (rb p lb : Nat) (w : World) (hp : p ≤ 1000000000) (h0 : 1 ≤ xs.length) (h1 : xs.length ≤ 1000) (hl : Lst rb vs lb w) (h : Rdr w rb p) :
    Calls Try.prog 50 #[.pointer (some ⟨rb, 0, none⟩), .slice (some ⟨lb, 0, none⟩) xs.length xs.length] w fun e w' => (∃ x, x ∈ xs ∧ e = .returned (.int .i64 x)) ∧ Rdr w' rb (p + 1) ∧ Only [rb] w w' :=
  num_any xs rb p lb w hp h0 h1 (by have := hl.1; omega) hl.2.1 (fun i hi => hl.2.2.1 i _ (by rw [hv, List.getElem?_map, List.getElem?_eq_getElem hi]; rfl)) h
theorem of_l (xs : List ByteArray) (vs : List Value) (hv : vs = xs.map Value.string) (rb p lb : Nat) (w : World) (hp : p ≤ 1000000000) (h0 : 1 ≤ xs.length) (h1 : xs.length ≤ 1000) (hl : Lst rb vs lb w) (h : Rdr w rb p) :
    Calls Try.prog 60 #[.pointer (some ⟨rb, 0, none⟩), .slice (some ⟨lb, 0, none⟩) xs.length xs.length] w fun e w' => (∃ x, x ∈ xs ∧ e = .returned (.string x)) ∧ Rdr w' rb (p + 1) ∧ Only [rb] w w' :=
  of_any xs rb p lb w hp h0 h1 (by have := hl.1; omega) hl.2.1 (fun i hi => hl.2.2.1 i _ (by rw [hv, List.getElem?_map, List.getElem?_eq_getElem hi]; rfl)) h
theorem Own.set_ne {w : World} {base e k : Nat} {v : Value} {es : List (List CD)} {fp : List Nat} (h : Own w base e k v es fp) {b j : Nat} {u : Value} (hn : b ∉ fp) (ho : v.ownBlock ≠ some b) : Own (w.setCell ⟨b, j, none⟩ u) base e k v es fp :=
  h.same (sameOn_set (fun x hx (e : x = b) => hn (e ▸ hx))) fun x hx => Below.heap_setCell _ _ _ _ (fun e : x = b => ho (e ▸ hx))
theorem Fresh.set_ne {w : World} {lo : Nat} {fp : List Nat} (h : Fresh lo w fp) {b j : Nat} {u : Value} (hn : b ∉ fp) : Fresh lo (w.setCell ⟨b, j, none⟩ u) fp := h.same (sameOn_set (fun x hx (e : x = b) => hn (e ▸ hx)))
/-- Behind an append to what the variable bt holds, stored into the variable. -/
theorem grown_var {w U w7 : World} {rb q R bt base mid : Nat} {kv v7 x0 x1 y0 y1 : Value} {es es' : List (List CD)} {fo fn : List Nat} {T : TypeId} {f0 f1 : Bool}
    (hg : U.grownBy w7 kv.ownBlock) (hv7 : ∀ b, v7.ownBlock = some b → kv.ownBlock = some b ∨ U.heap.size ≤ b) (hs7 : SameOn (fo ++ fn) U w7) (hown : Own U base T 2 kv es fo) (hown7 : Own w7 base T 2 v7 es' (fo ++ fn)) (hfo : Fresh base U fo)
    (hfm : ∀ b ∈ fo, b < mid) (hbm : base ≤ mid) (hfn : Fresh mid U fn) (hbt : bt < mid) (hnfo : bt ∉ fo) (hnow : kv.ownBlock ≠ some bt) (hbtU : bt < U.heap.size) (hr : Rdr U rb q) (hrt : rb < bt) (hrb : rb < base) (hN : Only [rb] w U) (hwb : w.heap.size ≤ base) (hwt : w.heap.size ≤ bt)
    (hR : R < base) (hRU : R < U.heap.size) (hRt : R ≠ bt) (t0 : U.cell? ⟨bt, 0, none⟩ = some x0) (t1 : U.cell? ⟨bt, 1, none⟩ = some x1) (tf1 : U.frozen? ⟨bt, 1, none⟩ = false) (q0 : U.cell? ⟨R, 0, none⟩ = some y0) (q1 : U.cell? ⟨R, 1, none⟩ = some y1) (qf0 : U.frozen? ⟨R, 0, none⟩ = f0) (qf1 : U.frozen? ⟨R, 1, none⟩ = f1) :
    (w7.cell? ⟨bt, 1, none⟩ = some x1 ∧ w7.frozen? ⟨bt, 1, none⟩ = false ∧ w7.frozen? ⟨R, 0, none⟩ = f0 ∧ w7.frozen? ⟨R, 1, none⟩ = f1 ∧ w7.cell? ⟨R, 0, none⟩ = some y0 ∧ w7.cell? ⟨R, 1, none⟩ = some y1 ∧ w7.cell? ⟨bt, 0, none⟩ = some x0) ∧
    Own (w7.setCell ⟨bt, 1, none⟩ v7) base T 2 v7 es' (fo ++ fn) ∧ Fresh base (w7.setCell ⟨bt, 1, none⟩ v7) (fo ++ fn) ∧ Rdr (w7.setCell ⟨bt, 1, none⟩ v7) rb q ∧ Only [rb] w (w7.setCell ⟨bt, 1, none⟩ v7) ∧
    (w7.setCell ⟨bt, 1, none⟩ v7).cell? ⟨bt, 0, none⟩ = some x0 ∧ (w7.setCell ⟨bt, 1, none⟩ v7).cell? ⟨bt, 1, none⟩ = some v7 ∧ (w7.setCell ⟨bt, 1, none⟩ v7).cell? ⟨R, 0, none⟩ = some y0 ∧ (w7.setCell ⟨bt, 1, none⟩ v7).cell? ⟨R, 1, none⟩ = some y1 := by
  have hro : ∀ b, kv.ownBlock = some b → base ≤ b := fun b h => (hown.block h).1
  have hRo : kv.ownBlock ≠ some R := fun h => by have := hro _ h; omega
  have c0 := grown_cell hg t0 hnow
  have c1 := grown_cell hg t1 hnow
  have d0 := grown_cell hg q0 hRo
  have d1 := grown_cell hg q1 hRo
  have hnf : bt ∉ fo ++ fn := fun h => by
    rcases List.mem_append.1 h with h | h
    · exact hnfo h
    · have := (hfn.2 _ h).1; omega
  have hn7 : v7.ownBlock ≠ some bt := fun h => by
    rcases hv7 _ h with h1 | h1
    · exact hnow h1
    · omega
  have hfr := (Fresh.app hfo hfm hbm hfn).same hs7
  refine ⟨⟨c1, grown_free hg hbtU tf1 hnow, grown_free hg hRU qf0 hRo, grown_free hg hRU qf1 hRo, d0, d1, c0⟩, hown7.set_ne hnf hn7, hfr.set_ne hnf, (hr.grown hg (fun b h => by have := hro b h; omega)).set hrt, (hN.grown hg (fun b h => by have := hro b h; omega)).set_new hwt, ?_, ?_, ?_, ?_⟩
  · exact (World.cell?_setCell_other w7 ⟨bt, 1, none⟩ ⟨bt, 0, none⟩ v7 (by simp)).trans c0
  · exact World.cell?_setCell_same w7 ⟨bt, 1, none⟩ v7 c1
  · exact (World.cell?_setCell_other w7 ⟨bt, 1, none⟩ ⟨R, 0, none⟩ v7 (by intro e; simp only [Addr.mk.injEq] at e; exact hRt e.1.symm)).trans d0
  · exact (World.cell?_setCell_other w7 ⟨bt, 1, none⟩ ⟨R, 1, none⟩ v7 (by intro e; simp only [Addr.mk.injEq] at e; exact hRt e.1.symm)).trans d1
end Go.Proofs.Ytlhochahokbonaa
