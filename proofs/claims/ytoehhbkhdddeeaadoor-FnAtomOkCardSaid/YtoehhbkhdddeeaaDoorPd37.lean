/- Parts of the proof: LitT. -/
import Derived.Deep.RegionHeld3
import Derived.Test.YtoehhbkhdddeeaaDoorPd36
import Derived.Test.YtoehhbkhdddeeaaDoorPd16
import Derived.Test.YtoehhbkhdddeeaaDoorPd11
section
namespace Go.Proofs.YtoehhbkhdddeeaaDoor
open Go Go.RowKit
set_option linter.unusedVariables false
set_option linter.unusedSimpArgs false
set_option maxRecDepth 100000
set_option maxHeartbeats 16000000
theorem zca (ts : List Tm) (v : Value) (w : World) (hbig : Tm.sizes ts ≤ 1000000000) (hv : TmsR w ts v) : Calls Tryd.prog 31 #[v] w (ToOut (.sl (ts.map Tm.cd)) w) :=
 zaC (Tm.sizes ts) (fun t v w h1 h2 h3 => zbG _ t v w h1 h2 h3) ts v w (fun t ht => Tm.size_mem ht) hbig hv
theorem rd_row {w : World} {b n c k : Nat} {es : List (List CD)} {vs : List Value} {f : List Nat} (hc : ∀ j u, vs[j]? = some u → w.cell? ⟨b, j, none⟩ = some u) (h : RdVs w es.flatten vs f) (hne : es ≠ []) (hn : n = es.length) (hcap : es.length ≤ c) (hm : c ≤ 9223372036854775807) (hk : ∀ e ∈ es, e.length = k) (hb : b < w.heap.size) :
  Rd w (.sl es) (.slice (some ⟨b, 0, none⟩) n c) (b :: f) := by
 simp only [Rd]
 exact ⟨_, c, by rw [hn], hcap, by simpa [maxLen] using hm, .inr ⟨hne, b, 0, f, rfl, hb, rfl, RdRows.mk (k := k) (fun j u hu => by rw [Nat.zero_add]; exact hc j u hu) h⟩⟩
theorem Atm.small_tms {x : Atm} (h : x.small) : Tm.sizes x.tms ≤ 2200000 := by
 unfold Atm.small at h; unfold Atm.tms
 split
 ·simp only [Tm.sizes]; omega
 ·omega
theorem Atm.tms_eq {x : Atm} (h : x.kind = 1) : x.tms = [x.a, x.b] := if_pos h
theorem Atm.tms_sum {x : Atm} (h : ¬ x.kind = 1) : x.tms = x.nums := if_neg h
theorem terms_any (x : Atm) (vs : List Value) (f : List Nat) (w : World) (hv : RdVs w x.cd vs f) :
  Calls Tryd.prog 32 #[.agg vs.toArray] w fun e w' => (∃ rv fp, e = .returned rv ∧ Rd w' (.sl (x.tms.map Tm.cd)) rv fp ∧ ∀ b ∈ fp, b ∈ f ∨ w.heap.size ≤ b) ∧ Below w.heap.size w w' := by
 obtain ⟨a2, c2, f2, a4, c4, f4, a5, c5, f5, a6, c6, f6, rfl, hff, m0, m1, m2, m3, m4, m5, m6, m7⟩ := Atm.open hv
 have HFF := Lib.hid hff
 clear hff
 by_cases k1 : x.kind = 1
 ·have tk : (x.kind == 1) = true := by simp [k1]
  have HT := Lib.hid (Atm.tms_eq k1)
  clear k1
  go_enter Tryd.func32, Tryd.ntmps32
  go_wp2_with fail
  go_ret
  have hb : Below w.heap.size w ((w.alloc (.cells #[.int .i64 x.kind, .string x.a.name, .slice a2 x.a.kids.length c2, .string x.b.name, .slice a4 x.b.kids.length c4, .slice a5 x.nums.length c5, .slice a6 x.times.length c6, .int .i64 x.bound, .bool x.strict] 28)).alloc (.cells #[.string x.a.name, .slice a2 x.a.kids.length c2, .string x.b.name, .slice a4 x.b.kids.length c4] 25)) := (zb _ _).alloc (by simp) _
  refine ⟨⟨_, (w.heap.size + 1) :: (f2 ++ f4), rfl, ?_, fun b hb => by
   rcases zco.1 hb with rfl | hb
   ·right; omega
   ·left; rw [HFF.out]; rcases zck.1 hb with h | h <;> simp [h]⟩, hb⟩
  rw [HT.out]
  have h2 := ((Tm.rdv m1 m2).app (Tm.rdv m3 m4)).below hb
  refine rd_row (k := 2) (vs := [.string x.a.name, .slice a2 x.a.kids.length c2, .string x.b.name, .slice a4 x.b.kids.length c4]) (f := f2 ++ f4) ?_ (by simpa using h2) (by simp) rfl (by simp) (by omega) (by simp [Tm.cd_len]) (by simp)
  intro j u hu
  simpa using hu
 ·have tk : (x.kind == 1) = false := by simp [k1]
  have HT := Lib.hid (Atm.tms_sum k1)
  clear k1
  go_enter Tryd.func32, Tryd.ntmps32
  go_wp2_with fail
  go_ret
  exact ⟨⟨_, f5, rfl, by rw [HT.out]; exact m5.below (zb _ _), fun b hb => .inl (by rw [HFF.out]; simp [hb])⟩, zb _ _⟩
theorem nil_rd (w : World) {α : Type} (cd : α → List CD) : Rd w (.sl (([] : List α).map cd)) (.slice none 0 0) [] := by
 simp only [List.map_nil, Rd]; exact ⟨none, 0, rfl, by simp, by simp [maxLen], by simp⟩
theorem Lt.tms_no {x : Lt} (h : x.atom.okB = false) : x.tms = [] := by unfold Lt.tms; rw [h]; rfl
theorem Lt.tms_yes {x : Lt} (h : x.atom.okB = true) : x.tms = x.atom.tms := if_pos h
theorem zbr (x : Lt) (vs : List Value) (f : List Nat) (w : World) (hbig : x.atom.small) (hv : RdVs w x.cd vs f) :
  Calls Tryd.prog 11 #[.agg vs.toArray] w (ToOut (.sl (x.tms.map Tm.cd)) w) := by
 obtain ⟨a2, c2, f2, a4, c4, f4, a5, c5, f5, a6, c6, f6, rfl, _, m0, m1, m2, m3, m4, m5, m6, m7⟩ := Lt.open hv
 have hst := Atm.small_tms hbig
 have hat := Atm.close m0 m1 m2 m3 m4 m5 m6 m7
 go_enter Tryd.func11, Tryd.ntmps11
 go_wp2_with fail
 refine (zay x.atom _ _ _ hbig (by exact hat.below (zb _ _))).mono ?_
 rintro e w1 ⟨rfl, hb⟩
 obtain ⟨hx, hz, hB⟩ := box1 (w := w) (wr := w1) (cs := #[.int .i64 x.atom.kind, .string x.atom.a.name, .slice a2 x.atom.a.kids.length c2, .string x.atom.b.name, .slice a4 x.atom.b.kids.length c4, .slice a5 x.atom.nums.length c5, .slice a6 x.atom.times.length c6, .int .i64 x.atom.bound, .bool x.atom.strict, .bool x.no]) (T := 30) (zu hb (by simp))
 clear hb
 have C0 := hx 0
 have C1 := hx 1
 have C2 := hx 2
 have C3 := hx 3
 have C4 := hx 4
 have C5 := hx 5
 have C6 := hx 6
 have C7 := hx 7
 have C8 := hx 8
 simp only [zch, zcf, zcg] at C0 C1 C2 C3 C4 C5 C6 C7 C8
 cases hk : x.atom.okB
 ·have HT := Lib.hid (Lt.tms_no hk)
  clear hk
  go_wp2_with fail
  go_ret
  exact ⟨_, [], rfl, by rw [HT.out]; exact nil_rd _ _, Fresh.nil _ _, hB⟩
 have HT := Lib.hid (Lt.tms_yes hk)
 clear hk
 go_wp2_with fail
 refine (terms_any x.atom _ _ _ (by exact hat.below hB)).mono ?_
 rintro e w2 ⟨⟨tv, tf, rfl, ht, _⟩, hb2⟩
 have hB2 := hB.trans (hb2.mono hB.size)
 go_wp2_with fail
 refine (zca x.atom.tms _ _ (by omega) ⟨tf, ht⟩).mono ?_
 rintro e w3 ⟨rv, rf, rfl, hr, hfr, hb3⟩
 have hB3 := hB2.trans (hb3.mono hB2.size)
 have hz2 := hB2.size
 go_wp2_with fail
 go_ret
 exact ⟨rv, rf, rfl, by rw [HT.out]; exact hr, hfr.mono hz2, hB3⟩
end Go.Proofs.YtoehhbkhdddeeaaDoor
end
