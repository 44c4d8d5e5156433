/- The terms of literals: both sides. -/
import Derived.Deep.RegionHeld3
import Derived.Test.YtlcfophhjflpdaaAtomS
import Derived.Test.YtlcfophhjflpdaaExTo
import Derived.Test.YtlcfophhjflpdaaWt
namespace Go.Proofs.Ytlcfophhjflpdaa
open Go Go.RowKit
set_option linter.unusedVariables false
set_option linter.unusedSimpArgs false

theorem ownTerms_x (ts : List Tm) (v : Value) (w : World) (hbig : Tm.sizes ts ≤ 1000000000) (hv : TmsR w ts v) : Calls Try.prog 117 #[v] w (ToOut (.sl (ts.map Tm.cd)) w) :=
  ownTerms_any (Tm.sizes ts) (fun t v w h1 h2 h3 => ownTerm_any _ t v w h1 h2 h3) ts v w (fun t ht => Tm.size_mem ht) hbig hv
theorem rd_row {w : World} {b n c k : Nat} {es : List (List CD)} {vs : List Value} {f : List Nat} (hc : ∀ j u, vs[j]? = some u → w.cell? ⟨b, j, none⟩ = some u) (h : RdVs w es.flatten vs f) (hne : es ≠ []) (hn : n = es.length) (hcap : es.length ≤ c) (hm : c ≤ 9223372036854775807) (hk : ∀ e ∈ es, e.length = k) (hb : b < w.heap.size) :
    Rd w (.sl es) (.slice (some ⟨b, 0, none⟩) n c) (b :: f) := by
  simp only [Rd]
  exact ⟨_, c, by rw [hn], hcap, by simpa [maxLen] using hm, .inr ⟨hne, b, 0, f, rfl, hb, rfl, RdRows.mk (k := k) (fun j u hu => by rw [Nat.zero_add]; exact hc j u hu) h⟩⟩
theorem Atm.small_tms {x : Atm} (h : x.small) : Tm.sizes x.tms ≤ 2200000 := by
  unfold Atm.small at h; unfold Atm.tms
  split
  · simp only [Tm.sizes]; omega
  · omega
theorem Atm.small_of {x : Atm} (h : wtV x.cd ≤ 1048576) : x.small := by
  have h1 := Tm.size_wtV x.a
  have h2 := Tm.size_wtV x.b
  have h3 := Tm.sizes_wtR x.nums
  simp only [Atm.cd, wtV_append, wtV_int, wtV_bool, wtV_sl] at h
  unfold Atm.small; omega
theorem Lt.small_of {x : Lt} (h : wtV x.cd ≤ 1048576) : x.atom.small := Atm.small_of (by rw [Lt.cd, wtV_append] at h; omega)
theorem Lt.times_ok {x : Lt} (h : wtV x.cd ≤ 1048576) : x.atom.times.length ≤ 1048576 := by
  rw [Lt.cd, wtV_append] at h
  simp only [Atm.cd, wtV_append, wtV_int, wtV_bool, wtV_sl, List.length_map] at h
  omega
theorem Lt.tms_sizes {x : Lt} (h : x.atom.small) : Tm.sizes x.tms ≤ 2200000 := by
  unfold Lt.tms; split
  · exact Atm.small_tms h
  · simp [Tm.sizes]
theorem Atm.tms_eq {x : Atm} (h : x.kind = 1) : x.tms = [x.a, x.b] := if_pos h
theorem Atm.tms_sum {x : Atm} (h : ¬ x.kind = 1) : x.tms = x.nums := if_neg h

theorem nil_rd (w : World) {α : Type} (cd : α → List CD) : Rd w (.sl (([] : List α).map cd)) (.slice none 0 0) [] := by
  simp only [List.map_nil, Rd]; exact ⟨none, 0, rfl, by simp, by simp [maxLen], by simp⟩
theorem rd_none (w : World) {α : Type} {cd : α → List CD} (b : Nat) {o : Nat} (hb : b < w.heap.size ∨ True) : Rd w (.sl (([] : List α).map cd)) (.slice (some ⟨b, o, none⟩) 0 0) [] := by
  simp only [List.map_nil, Rd]; exact ⟨some ⟨b, o, none⟩, 0, rfl, by simp, by simp [maxLen], by simp⟩
theorem fresh_cons {lo b : Nat} {w : World} {cs : Array Value} {T : Nat} {f : List Nat} (hz : w.heap.size ≤ (w.alloc (.cells cs T)).heap.size) (h : Fresh lo (w.alloc (.cells cs T)) f) (hl : ∀ b ∈ f, b < w.heap.size) (hlo : lo ≤ w.heap.size) (hb : b = w.heap.size) : Fresh lo (w.alloc (.cells cs T)) (b :: f) := by
  subst hb
  refine ⟨List.nodup_cons.2 ⟨fun hm => by have := hl _ hm; omega, h.1⟩, ?_⟩
  intro b hb
  rcases List.mem_cons.1 hb with rfl | hb
  · exact ⟨hlo, cs, T, by show (w.heap.push _)[w.heap.size]? = _; simp⟩
  · exact h.2 b hb
theorem Lt.tms_no {x : Lt} (h : x.atom.okB = false) : x.tms = [] := by unfold Lt.tms; rw [h]; rfl
theorem Lt.tms_yes {x : Lt} (h : x.atom.okB = true) : x.tms = x.atom.tms := if_pos h

end Go.Proofs.Ytlcfophhjflpdaa
