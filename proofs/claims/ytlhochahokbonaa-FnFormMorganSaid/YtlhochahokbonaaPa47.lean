/- Parts of the proof: HoldW. -/
import Derived.BigQuiet
import Derived.Test.YtlhochahokbonaaPa21
namespace Go.Proofs.Ytlhochahokbonaa
open Go Go.RowKit
set_option linter.unusedVariables false
set_option linter.unusedSimpArgs false
theorem hasA_at {l : List Atm} {x : Atm} (h : hasA l x = true) : ∃ k : Nat, k < l.length ∧ ∀ n : Int, FirstOf (fun y => eqV y.cd x.cd) l n → n = (k : Int) := by
  have key : ∀ l : List Atm, hasA l x = true → ∃ n : Int, 0 ≤ n ∧ FirstOf (fun y => eqV y.cd x.cd) l n := by
    intro l
    induction l with
    | nil => intro h; simp [hasA] at h
    | cons y l ih =>
      intro h
      cases hy : eqV y.cd x.cd
      · have h' : hasA l x = true := by unfold hasA at h ⊢; simpa [hy] using h
        obtain ⟨n, h0, hf⟩ := ih h'
        rcases hf with ⟨rfl, _⟩ | ⟨k, hk, rfl, h1, h2⟩
        · omega
        · refine ⟨((k + 1 : Nat) : Int), by omega, .inr ⟨k + 1, by simpa using hk, rfl, by simpa using h1, ?_⟩⟩
          simp only [List.take_succ_cons, List.all_cons, hy, Bool.not_false, Bool.true_and]; exact h2
      · exact ⟨0, by omega, .inr ⟨0, by simp, rfl, by simpa using hy, by simp⟩⟩
  obtain ⟨n, h0, hf⟩ := key l h
  have hb := hf.bd
  refine ⟨n.toNat, by omega, fun m hm => ?_⟩
  rw [hm.uniq hf]; omega
theorem valA_k {l : List Atm} {vs : List Bool} {x : Atm} {k : Nat} (hl : l.length = vs.length) (h : hasA l x = true) (hk : ∀ n : Int, FirstOf (fun y => eqV y.cd x.cd) l n → n = (k : Int)) (hf : ∃ n, FirstOf (fun y => eqV y.cd x.cd) l n) (h' : k < vs.length) : valA l vs x = vs[k] := by
  obtain ⟨n, hn⟩ := hf
  obtain ⟨j, hj, rfl, e⟩ := valA_first hl hn h
  have := hk _ hn
  have hjk : j = k := by omega
  subst hjk; exact e
theorem first_ex (l : List Atm) (x : Atm) : ∃ n, FirstOf (fun y => eqV y.cd x.cd) l n := by
  induction l with
  | nil => exact ⟨-1, .inl ⟨rfl, rfl⟩⟩
  | cons y l ih =>
    obtain ⟨n, hn⟩ := ih
    cases hy : eqV y.cd x.cd
    · rcases hn with ⟨rfl, h⟩ | ⟨k, hk, rfl, h1, h2⟩
      · exact ⟨-1, .inl ⟨rfl, by simp only [List.all_cons, hy, Bool.not_false, Bool.true_and]; exact h⟩⟩
      · refine ⟨((k + 1 : Nat) : Int), .inr ⟨k + 1, by simpa using hk, rfl, by simpa using h1, ?_⟩⟩
        simp only [List.take_succ_cons, List.all_cons, hy, Bool.not_false, Bool.true_and]; exact h2
    · exact ⟨0, .inr ⟨0, by simp, rfl, by simpa using hy, by simp⟩⟩
set_option maxRecDepth 100000 in
set_option maxHeartbeats 1000000 in
theorem isAtom_c (l : List Atm) (vs : List Bool) (x : Atm) (us : List Value) (g : List Nat) (pv pl : Nat) (av : Option Addr) (cv : Nat) (fv : List Nat) (al : Option Addr) (cl : Nat) (fl : List Nat) (w : World) (hpv : w.cell? ⟨pv, 0, none⟩ = some (.slice av vs.length cv)) (hpl : w.cell? ⟨pl, 0, none⟩ = some (.slice al l.length cl)) (hvr : Rd w (.sl (vs.map boolCd)) (.slice av vs.length cv) fv) (hlr : Rd w (.sl (l.map Atm.cd)) (.slice al l.length cl) fl) (hx : RdVs w x.cd us g) (hlen : l.length = vs.length) (hin : hasA l x = true) :
    Calls Try.prog 44 #[.agg us.toArray, .pointer (some ⟨pv, 0, none⟩), .pointer (some ⟨pl, 0, none⟩)] w fun e w' => e = .returned (.bool (valA l vs x)) ∧ Below w.heap.size w w' := by
  obtain ⟨a2, c2, f2, a4, c4, f4, a5, c5, f5, a6, c6, f6, rfl, -, m0, m1, m2, m3, m4, m5, m6, m7⟩ := Atm.open hx
  obtain ⟨k, hk, HK⟩ := hasA_at hin
  have hkv : k < vs.length := by omega
  have HE := Lib.hid (valA_k hlen hin HK (first_ex l x) hkv)
  obtain ⟨b, off, rfl, hbs, _⟩ := rd_addr hvr (by omega)
  obtain ⟨d0, _⟩ := boolCd_at hvr hkv
  have hpvz : pv < w.heap.size := World.block_lt_of_cell? w _ hpv
  have hplz : pl < w.heap.size := World.block_lt_of_cell? w _ hpl
  have hb0 := below_alloc w (.cells #[.int .i64 x.kind, .string x.a.name, .slice a2 x.a.kids.length c2, .string x.b.name, .slice a4 x.b.kids.length c4, .slice a5 x.nums.length c5, .slice a6 x.times.length c6, .int .i64 x.bound, .bool x.strict] 31)
  have HL : Hid (∀ W, Below (w.alloc (.cells #[.int .i64 x.kind, .string x.a.name, .slice a2 x.a.kids.length c2, .string x.b.name, .slice a4 x.b.kids.length c4, .slice a5 x.nums.length c5, .slice a6 x.times.length c6, .int .i64 x.bound, .bool x.strict] 31)).heap.size (w.alloc (.cells #[.int .i64 x.kind, .string x.a.name, .slice a2 x.a.kids.length c2, .string x.b.name, .slice a4 x.b.kids.length c4, .slice a5 x.nums.length c5, .slice a6 x.times.length c6, .int .i64 x.bound, .bool x.strict] 31)) W → Calls Try.prog 45 #[.slice al l.length cl, .agg [.int .i64 x.kind, .string x.a.name, .slice a2 x.a.kids.length c2, .string x.b.name, .slice a4 x.b.kids.length c4, .slice a5 x.nums.length c5, .slice a6 x.times.length c6, .int .i64 x.bound, .bool x.strict].toArray] W (fun e w' => e = .returned (.int .i64 (k : Int)) ∧ Below W.heap.size W w')) := Lib.hid (fun W hW =>
    (atomIndex_any x l _ _ _ _ W ((hlr.below hb0).below hW) ((hx.below hb0).below hW)).mono fun e w' ⟨⟨n, h1, h2⟩, h3⟩ => ⟨by rw [h1, HK n h2], h3⟩)
  have P0 := cell_keep hpv hb0
  have P1 := cell_keep hpl hb0
  have D0 := cell_keep d0 hb0
  have hp := cell_new w #[.int .i64 x.kind, .string x.a.name, .slice a2 x.a.kids.length c2, .string x.b.name, .slice a4 x.b.kids.length c4, .slice a5 x.nums.length c5, .slice a6 x.times.length c6, .int .i64 x.bound, .bool x.strict] 31
  have C0 := hp 0
  have C1 := hp 1
  have C2 := hp 2
  have C3 := hp 3
  have C4 := hp 4
  have C5 := hp 5
  have C6 := hp 6
  have C7 := hp 7
  have C8 := hp 8
  simp only [List.getElem?_toArray, List.getElem?_cons_zero, List.getElem?_cons_succ] at C0 C1 C2 C3 C4 C5 C6 C7 C8
  clear hlen hp hin HK hlr hx hvr d0 hpv hpl m0 m1 m2 m3 m4 m5 m6 m7
  go_enter Try.func44, Try.ntmps44
  go_wp2_with fail
  generalize hWW : w.alloc (.cells #[.int .i64 x.kind, .string x.a.name, .slice a2 x.a.kids.length c2, .string x.b.name, .slice a4 x.b.kids.length c4, .slice a5 x.nums.length c5, .slice a6 x.times.length c6, .int .i64 x.bound, .bool x.strict] 31) = W0 at *
  clear hWW
  have qP0 := cell_regrown P0
  have qP1 := cell_regrown P1
  have qD0 := cell_regrown D0
  have qC0 := cell_regrown C0
  have qC1 := cell_regrown C1
  have qC2 := cell_regrown C2
  have qC3 := cell_regrown C3
  have qC4 := cell_regrown C4
  have qC5 := cell_regrown C5
  have qC6 := cell_regrown C6
  have qC7 := cell_regrown C7
  have qC8 := cell_regrown C8
  clear P0 P1 D0 C0 C1 C2 C3 C4 C5 C6 C7 C8
  refine wp_region_quiet_below (by kernel_rfl) (by kernel_rfl) ?_
  repeat (first | go_big_quiet_skip | quiet_step (first | (go_at_call 45; with_reducible refine Calls.regrown_of (HL.out _ (below_regrown _ _ _)))))
  refine wpQuiet_nil ?_
  intro w9 hw2
  obtain ⟨⟨dq, osq⟩, hw2⟩ := hw2
  have hb9 : Below (W0).heap.size (W0) w9 := hw2 ▸ below_regrown (W0) dq osq
  clear hw2 qP0 qP1 qD0 qC0 qC1 qC2 qC3 qC4 qC5 qC6 qC7 qC8
  go_wp2_with fail
  go_ret
  exact ⟨retB HE.out.symm, hb0.trans (hb9.mono hb0.size)⟩
theorem cell_set_h {w : World} {b i : Nat} {v u : Value} (h : w.cell? ⟨b, i, none⟩ = some u) : (w.setCell ⟨b, i, none⟩ v).cell? ⟨b, i, none⟩ = some v := World.cell?_setCell_same w _ v h
theorem nk_le (k : Int) : Fm.nk k ≤ 2 := by unfold Fm.nk; repeat' split
                                            all_goals omega
theorem nk_kinds {k : Int} {n : Nat} (h : Fm.nk k = (n : Int)) : k = 1 ∨ k = 2 ∨ k = 3 ∨ k = 4 ∨ k = 5 ∨ k = 6 := by
  unfold Fm.nk at h
  by_cases h1 : k = 1
  · exact .inl h1
  by_cases h2 : k = 2
  · exact .inr (.inl h2)
  by_cases h3 : k = 3
  · exact .inr (.inr (.inl h3))
  by_cases h4 : k = 4
  · exact .inr (.inr (.inr (.inl h4)))
  by_cases h5 : k = 5
  · exact .inr (.inr (.inr (.inr (.inl h5))))
  by_cases h6 : k = 6
  · exact .inr (.inr (.inr (.inr (.inr h6))))
  rw [if_neg h1, if_neg h2, if_neg h3, if_neg h4, if_neg h5, if_neg h6] at h
  omega
set_option maxRecDepth 100000 in
set_option maxHeartbeats 4000000 in
theorem holds_n (l : List Atm) (p : Atm → Bool) (pv pl : Nat) (n : Nat) : ∀ (f : Fm) (d : Nat) (vs : List Value) (ff : List Nat) (w : World), ndV f.cd ≤ n → Fm.shape d f = true → Fm.has l f = true → RdVs w f.cd vs ff → Hid (∀ W, Below w.heap.size w W → ∀ (x : Atm) (us : List Value) (g : List Nat), RdVs W x.cd us g → hasA l x = true → Calls Try.prog 44 #[.agg us.toArray, .pointer (some ⟨pv, 0, none⟩), .pointer (some ⟨pl, 0, none⟩)] W (fun e w' => e = .returned (.bool (p x)) ∧ Below W.heap.size W w')) →
    Calls Try.prog 43 #[.agg vs.toArray, .func (.func 44) #[] #[.pointer (some ⟨pv, 0, none⟩), .pointer (some ⟨pl, 0, none⟩)]] w fun e w' => e = .returned (.bool (Fm.holds p f)) ∧ Below w.heap.size w w' := by
  induction n with
  | zero =>
    intro f d vs ff w hn; have h : 0 < ndV f.cd := by rw [Fm.cd_eq]; simp [ndV, ndC]; try omega
    omega
  | succ n ih =>
  intro f d vs ff w hn hsh hha hv HC
  have HN : Hid (∀ k ∈ f.kids, ndV k.cd ≤ n) := fun k hk => by have := Fm.kid_nd hk; omega
  have IH := Lib.hid ih
  clear ih
  obtain ⟨hd1, hnk, hshk⟩ := Fm.shape_parts hsh
  have hk2 : f.kids.length ≤ 2 := by have := nk_le f.kind; omega
  have hkinds := nk_kinds hnk
  have hk1 : f.kind = 1 → f.kids.length = 0 := fun h => by rw [h] at hnk; simp [Fm.nk] at hnk; omega
  have HSH : Hid (∀ k ∈ f.kids, Fm.shape (d - 1) k = true) := Lib.hid (fun k hk => by
    by_cases h : f.kind = 1
    · rw [List.eq_nil_of_length_eq_zero (hk1 h)] at hk; cases hk
    · exact hshk h k hk)
  have HHA : Hid (∀ k ∈ f.kids, Fm.has l k = true) := Lib.hid (fun k hk => by
    by_cases h : f.kind = 1
    · rw [List.eq_nil_of_length_eq_zero (hk1 h)] at hk; cases hk
    · exact Fm.has_kids hha h k hk)
  have HLIT : Hid (f.kind = 1 → hasA l f.lit.atom = true) := Lib.hid (fun h => Fm.has_lit hha h)
  obtain ⟨a3, c3, f3, a5, c5, f5, a6, c6, f6, a7, c7, f7, a11, c11, f11, rfl, -, m0, m1, m2, m3, m4, m5, m6, m7, m8, m9⟩ := Fm.open hv
  clear hv hsh hha hshk hk1 hnk
  have hat := Atm.close (x := f.lit.atom) m1 m2 m3 m4 m5 m6 m7 m8
  have hE := Fm.holds_eq p f
  go_enter Try.func43, Try.ntmps43
  go_wp2_with fail
  go_loopw [11] (fun i wr => ∃ k : Nat, k ≤ f.kids.length ∧ i = .int .i64 k ∧ (∀ q, wr.cell? ⟨w.heap.size, q, none⟩ = (#[.int .i64 f.kind, .int .i64 f.lit.atom.kind, .string f.lit.atom.a.name, .slice a3 f.lit.atom.a.kids.length c3, .string f.lit.atom.b.name, .slice a5 f.lit.atom.b.kids.length c5, .slice a6 f.lit.atom.nums.length c6, .slice a7 f.lit.atom.times.length c7, .int .i64 f.lit.atom.bound, .bool f.lit.atom.strict, .bool f.lit.no, .slice a11 f.kids.length c11] : Array Value)[q]?) ∧ wr.cell? ⟨w.heap.size + 1, 0, none⟩ = some (.bool (((f.kids.take k).map (Fm.holds p)).getD 0 false)) ∧ wr.cell? ⟨w.heap.size + 1, 1, none⟩ = some (.bool (((f.kids.take k).map (Fm.holds p)).getD 1 false)) ∧ wr.frozen? ⟨w.heap.size + 1, 0, none⟩ = false ∧ wr.frozen? ⟨w.heap.size + 1, 1, none⟩ = false ∧ w.heap.size + 2 ≤ wr.heap.size ∧ Below w.heap.size w wr) (fun i _ => f.kids.length - (intOf i).toNat)
  case atStart =>
    obtain ⟨hX, hY, hz, hB⟩ := box2 (w := w) (wr := (w.alloc (.cells #[.int .i64 f.kind, .int .i64 f.lit.atom.kind, .string f.lit.atom.a.name, .slice a3 f.lit.atom.a.kids.length c3, .string f.lit.atom.b.name, .slice a5 f.lit.atom.b.kids.length c5, .slice a6 f.lit.atom.nums.length c6, .slice a7 f.lit.atom.times.length c7, .int .i64 f.lit.atom.bound, .bool f.lit.atom.strict, .bool f.lit.no, .slice a11 f.kids.length c11] 43)).alloc (.cells #[.bool false, .bool false] 110)) (cs := #[.int .i64 f.kind, .int .i64 f.lit.atom.kind, .string f.lit.atom.a.name, .slice a3 f.lit.atom.a.kids.length c3, .string f.lit.atom.b.name, .slice a5 f.lit.atom.b.kids.length c5, .slice a6 f.lit.atom.nums.length c6, .slice a7 f.lit.atom.times.length c7, .int .i64 f.lit.atom.bound, .bool f.lit.atom.strict, .bool f.lit.no, .slice a11 f.kids.length c11]) (ds := #[.bool false, .bool false]) (T := 43) (U := 110) (Below.refl _ _)
    obtain ⟨_, hf⟩ := box2_free (w := w) (wr := (w.alloc (.cells #[.int .i64 f.kind, .int .i64 f.lit.atom.kind, .string f.lit.atom.a.name, .slice a3 f.lit.atom.a.kids.length c3, .string f.lit.atom.b.name, .slice a5 f.lit.atom.b.kids.length c5, .slice a6 f.lit.atom.nums.length c6, .slice a7 f.lit.atom.times.length c7, .int .i64 f.lit.atom.bound, .bool f.lit.atom.strict, .bool f.lit.no, .slice a11 f.kids.length c11] 43)).alloc (.cells #[.bool false, .bool false] 110)) (cs := #[.int .i64 f.kind, .int .i64 f.lit.atom.kind, .string f.lit.atom.a.name, .slice a3 f.lit.atom.a.kids.length c3, .string f.lit.atom.b.name, .slice a5 f.lit.atom.b.kids.length c5, .slice a6 f.lit.atom.nums.length c6, .slice a7 f.lit.atom.times.length c7, .int .i64 f.lit.atom.bound, .bool f.lit.atom.strict, .bool f.lit.no, .slice a11 f.kids.length c11]) (ds := #[.bool false, .bool false]) (T := 43) (U := 110) (Below.refl _ _) 0
    obtain ⟨_, hf'⟩ := box2_free (w := w) (wr := (w.alloc (.cells #[.int .i64 f.kind, .int .i64 f.lit.atom.kind, .string f.lit.atom.a.name, .slice a3 f.lit.atom.a.kids.length c3, .string f.lit.atom.b.name, .slice a5 f.lit.atom.b.kids.length c5, .slice a6 f.lit.atom.nums.length c6, .slice a7 f.lit.atom.times.length c7, .int .i64 f.lit.atom.bound, .bool f.lit.atom.strict, .bool f.lit.no, .slice a11 f.kids.length c11] 43)).alloc (.cells #[.bool false, .bool false] 110)) (cs := #[.int .i64 f.kind, .int .i64 f.lit.atom.kind, .string f.lit.atom.a.name, .slice a3 f.lit.atom.a.kids.length c3, .string f.lit.atom.b.name, .slice a5 f.lit.atom.b.kids.length c5, .slice a6 f.lit.atom.nums.length c6, .slice a7 f.lit.atom.times.length c7, .int .i64 f.lit.atom.bound, .bool f.lit.atom.strict, .bool f.lit.no, .slice a11 f.kids.length c11]) (ds := #[.bool false, .bool false]) (T := 43) (U := 110) (Below.refl _ _) 1
    exact ⟨0, Nat.zero_le _, rfl, hX, hY 0, hY 1, hf, hf', hz, hB⟩
  case round =>
    obtain ⟨k, hkl, rfl, hX, x0, x1, f0, f1, hz1, hb⟩ := hrel
    have hz := hb.size
    by_cases hlt : k < f.kids.length
    · have hk01 : k = 0 ∨ k = 1 := by omega
      rcases hk01 with rfl | rfl
      · obtain ⟨b, off, rfl, hbs, _⟩ := rd_addr m9 (by omega)
        obtain ⟨b3, e3, g3, b5, e5, g5, b6, e6, g6, b7, e7, g7, b11, e11, g11, d0, d1, d2, d3, d4, d5, d6, d7, d8, d9, d10, d11, n0, n1, n2, n3, n4, n5, n6, n7, n8, n9, _⟩ := Fm.at (m9.below hb) hlt
        have hbz : b < wr.heap.size := by omega
        simp only [Nat.zero_mul, Nat.one_mul, Nat.add_zero] at d0 d1 d2 d3 d4 d5 d6 d7 d8 d9 d10 d11
        go_wp2_with fail
        refine (IH.out f.kids[0] (d - 1) _ _ _ (HN.out _ (List.getElem_mem hlt)) (HSH.out _ (List.getElem_mem hlt)) (HHA.out _ (List.getElem_mem hlt)) (by exact (Fm.close n0 n1 n2 n3 n4 n5 n6 n7 n8 n9).below (below_alloc _ _)) (Lib.hid fun W hW => HC.out W ((hb.alloc hz _).trans (hW.mono (by simp; omega))))).mono ?_
        rintro e w2 ⟨rfl, hb2⟩
        have hbk := (below_alloc wr (.cells #[.int .i64 f.kids[0].kind, .int .i64 f.kids[0].lit.atom.kind, .string f.kids[0].lit.atom.a.name, .slice b3 f.kids[0].lit.atom.a.kids.length e3, .string f.kids[0].lit.atom.b.name, .slice b5 f.kids[0].lit.atom.b.kids.length e5, .slice b6 f.kids[0].lit.atom.nums.length e6, .slice b7 f.kids[0].lit.atom.times.length e7, .int .i64 f.kids[0].lit.atom.bound, .bool f.kids[0].lit.atom.strict, .bool f.kids[0].lit.no, .slice b11 f.kids[0].kids.length e11] 43)).trans (hb2.mono (by simp))
        have y0 := cell_keep x0 hbk
        have y1 := cell_keep x1 hbk
        have g0 : w2.frozen? ⟨w.heap.size + 1, 0, none⟩ = false := (hbk.frozen (p := ⟨w.heap.size + 1, 0, none⟩) (by simp only; omega)).trans f0
        have g1 : w2.frozen? ⟨w.heap.size + 1, 1, none⟩ = false := (hbk.frozen (p := ⟨w.heap.size + 1, 1, none⟩) (by simp only; omega)).trans f1
        have hX2 := cells_later hX (by omega) hbk
        have hz2 := hbk.size
        have HV := Lib.hid (show (((f.kids.take (0 + 1)).map (Fm.holds p)).getD 0 false) = Fm.holds p f.kids[0] by rw [List.take_succ_eq_append_getElem hlt]; simp [hlt])
        have HO := Lib.hid (show (((f.kids.take (0 + 1)).map (Fm.holds p)).getD 1 false) = (((f.kids.take 0).map (Fm.holds p)).getD 1 false) by rw [List.take_succ_eq_append_getElem hlt]; simp)
        clear hb2 hX x0 x1 f0 f1
        go_wp2_with fail
        go_roundw
        case rel =>
          refine ⟨0 + 1, by omega, by go_num, fun q => ?_, ?_, ?_, ?_, ?_, by simp; omega, ((hb.trans (hbk.mono hz)).setCell (by simp only; omega) _)⟩
          · rw [World.cell?_setCell_other _ _ _ _ (by simp)]; exact hX2 q
          · rw [HV.out]; exact cell_set_h y0
          · rw [World.cell?_setCell_other _ _ _ _ (by simp), HO.out]; exact y1
          · rw [World.frozen?_setCell]; exact g0
          · rw [World.frozen?_setCell]; exact g1
        case measure => simp [intOf]; omega
      · obtain ⟨b, off, rfl, hbs, _⟩ := rd_addr m9 (by omega)
        obtain ⟨b3, e3, g3, b5, e5, g5, b6, e6, g6, b7, e7, g7, b11, e11, g11, d0, d1, d2, d3, d4, d5, d6, d7, d8, d9, d10, d11, n0, n1, n2, n3, n4, n5, n6, n7, n8, n9, _⟩ := Fm.at (m9.below hb) hlt
        have hbz : b < wr.heap.size := by omega
        simp only [Nat.zero_mul, Nat.one_mul, Nat.add_zero] at d0 d1 d2 d3 d4 d5 d6 d7 d8 d9 d10 d11
        go_wp2_with fail
        refine (IH.out f.kids[1] (d - 1) _ _ _ (HN.out _ (List.getElem_mem hlt)) (HSH.out _ (List.getElem_mem hlt)) (HHA.out _ (List.getElem_mem hlt)) (by exact (Fm.close n0 n1 n2 n3 n4 n5 n6 n7 n8 n9).below (below_alloc _ _)) (Lib.hid fun W hW => HC.out W ((hb.alloc hz _).trans (hW.mono (by simp; omega))))).mono ?_
        rintro e w2 ⟨rfl, hb2⟩
        have hbk := (below_alloc wr (.cells #[.int .i64 f.kids[1].kind, .int .i64 f.kids[1].lit.atom.kind, .string f.kids[1].lit.atom.a.name, .slice b3 f.kids[1].lit.atom.a.kids.length e3, .string f.kids[1].lit.atom.b.name, .slice b5 f.kids[1].lit.atom.b.kids.length e5, .slice b6 f.kids[1].lit.atom.nums.length e6, .slice b7 f.kids[1].lit.atom.times.length e7, .int .i64 f.kids[1].lit.atom.bound, .bool f.kids[1].lit.atom.strict, .bool f.kids[1].lit.no, .slice b11 f.kids[1].kids.length e11] 43)).trans (hb2.mono (by simp))
        have y0 := cell_keep x0 hbk
        have y1 := cell_keep x1 hbk
        have g0 : w2.frozen? ⟨w.heap.size + 1, 0, none⟩ = false := (hbk.frozen (p := ⟨w.heap.size + 1, 0, none⟩) (by simp only; omega)).trans f0
        have g1 : w2.frozen? ⟨w.heap.size + 1, 1, none⟩ = false := (hbk.frozen (p := ⟨w.heap.size + 1, 1, none⟩) (by simp only; omega)).trans f1
        have hX2 := cells_later hX (by omega) hbk
        have hz2 := hbk.size
        have HV := Lib.hid (show (((f.kids.take (1 + 1)).map (Fm.holds p)).getD 1 false) = Fm.holds p f.kids[1] by rw [List.take_succ_eq_append_getElem hlt]; simp [hlt])
        have HO := Lib.hid (show (((f.kids.take (1 + 1)).map (Fm.holds p)).getD 0 false) = (((f.kids.take 1).map (Fm.holds p)).getD 0 false) by rw [List.take_succ_eq_append_getElem hlt]; simp)
        clear hb2 hX x0 x1 f0 f1
        go_wp2_with fail
        go_roundw
        case rel =>
          refine ⟨1 + 1, by omega, by go_num, fun q => ?_, ?_, ?_, ?_, ?_, by simp; omega, ((hb.trans (hbk.mono hz)).setCell (by simp only; omega) _)⟩
          · rw [World.cell?_setCell_other _ _ _ _ (by simp)]; exact hX2 q
          · rw [World.cell?_setCell_other _ _ _ _ (by simp), HO.out]; exact y0
          · rw [HV.out]; exact cell_set_h y1
          · rw [World.frozen?_setCell]; exact g0
          · rw [World.frozen?_setCell]; exact g1
        case measure => simp [intOf]; omega
    · have he : f.kids.take k = f.kids := List.take_of_length_le (by omega)
      rw [he] at x0 x1
      have hx := hX
      have C0 := hx 0
      have C1 := hx 1
      have C2 := hx 2
      have C3 := hx 3
      have C4 := hx 4
      have C5 := hx 5
      have C6 := hx 6
      have C7 := hx 7
      have C8 := hx 8
      have C9 := hx 9
      have C10 := hx 10
      have C11 := hx 11
      simp only [List.getElem?_toArray, List.getElem?_cons_zero, List.getElem?_cons_succ] at C0 C1 C2 C3 C4 C5 C6 C7 C8 C9 C10 C11
      clear hx he
      have hs0 : w.heap.size < wr.heap.size := by omega
      have hs1 : w.heap.size + 1 < wr.heap.size := by omega
      obtain ⟨b0, hb0⟩ : ∃ b0, ((f.kids.map (Fm.holds p)).getD 0 false) = b0 := ⟨_, rfl⟩
      obtain ⟨b1, hb1⟩ : ∃ b1, ((f.kids.map (Fm.holds p)).getD 1 false) = b1 := ⟨_, rfl⟩
      rw [hb0] at x0
      rw [hb1] at x1
      rw [hb0, hb1] at hE
      clear hb0 hb1
      rcases hkinds with h1 | h2 | h3 | h4 | h5 | h6
      · have t1 : (f.kind == 1) = true := by simp [h1]
        rw [if_pos h1] at hE
        have HE := Lib.hid hE
        have HCL : Hid (∀ W, Below wr.heap.size wr W → Calls Try.prog 44 #[.agg [.int .i64 f.lit.atom.kind, .string f.lit.atom.a.name, .slice a3 f.lit.atom.a.kids.length c3, .string f.lit.atom.b.name, .slice a5 f.lit.atom.b.kids.length c5, .slice a6 f.lit.atom.nums.length c6, .slice a7 f.lit.atom.times.length c7, .int .i64 f.lit.atom.bound, .bool f.lit.atom.strict].toArray, .pointer (some ⟨pv, 0, none⟩), .pointer (some ⟨pl, 0, none⟩)] W (fun e w' => e = .returned (.bool (p f.lit.atom)) ∧ Below W.heap.size W w')) := Lib.hid (fun W hW => HC.out W (hb.trans (hW.mono hz)) f.lit.atom _ _ ((hat.below hb).below hW) (HLIT.out h1))
        clear hE h1 hX m0 m1 m2 m3 m4 m5 m6 m7 m8 m9 hat x0 x1 f0 f1
        go_wp2_with fail
        have qC1 := cell_regrown C1
        have qC2 := cell_regrown C2
        have qC3 := cell_regrown C3
        have qC4 := cell_regrown C4
        have qC5 := cell_regrown C5
        have qC6 := cell_regrown C6
        have qC7 := cell_regrown C7
        have qC8 := cell_regrown C8
        have qC9 := cell_regrown C9
        have qC10 := cell_regrown C10
        clear C1 C2 C3 C4 C5 C6 C7 C8 C9 C10
        refine wp_region_quiet_below (by kernel_rfl) (by kernel_rfl) ?_
        repeat (first | go_big_quiet_skip | quiet_step (first | (go_at_call 44; with_reducible refine Calls.regrown_of (HCL.out _ (below_regrown _ _ _)))))
        refine wpQuiet_nil ?_
        intro w9 hw2
        obtain ⟨⟨dq, osq⟩, hw2⟩ := hw2
        have hb9 : Below (wr).heap.size (wr) w9 := hw2 ▸ below_regrown (wr) dq osq
        clear hw2 qC1 qC2 qC3 qC4 qC5 qC6 qC7 qC8 qC9 qC10
        go_wp2_with fail
        go_ret
        exact ⟨retB HE.out.symm, hb.trans (hb9.mono hz)⟩
      · have t1 : (f.kind == 1) = false := by simp [h2]
        have t2 : (f.kind == 2) = true := by simp [h2]
        rw [if_neg (by omega)] at hE
        have HE : Hid (Fm.holds p f = joinB 2 b0 b1) := Lib.hid (by rw [hE, h2])
        clear hE h2 hX m0 m1 m2 m3 m4 m5 m6 m7 m8 m9 hat
        cases b0 <;> cases b1
        all_goals
          go_wp2_with fail
          go_ret
          exact ⟨retB (by rw [HE.out]; rfl), hb⟩
      · have t1 : (f.kind == 1) = false := by simp [h3]
        have t2 : (f.kind == 2) = false := by simp [h3]
        have t3 : (f.kind == 3) = true := by simp [h3]
        rw [if_neg (by omega)] at hE
        have HE : Hid (Fm.holds p f = joinB 3 b0 b1) := Lib.hid (by rw [hE, h3])
        clear hE h3 hX m0 m1 m2 m3 m4 m5 m6 m7 m8 m9 hat
        cases b0 <;> cases b1
        all_goals
          go_wp2_with fail
          go_ret
          exact ⟨retB (by rw [HE.out]; rfl), hb⟩
      · have t1 : (f.kind == 1) = false := by simp [h4]
        have t2 : (f.kind == 2) = false := by simp [h4]
        have t3 : (f.kind == 3) = false := by simp [h4]
        have t4 : (f.kind == 4) = true := by simp [h4]
        rw [if_neg (by omega)] at hE
        have HE : Hid (Fm.holds p f = joinB 4 b0 b1) := Lib.hid (by rw [hE, h4])
        clear hE h4 hX m0 m1 m2 m3 m4 m5 m6 m7 m8 m9 hat
        cases b0 <;> cases b1
        all_goals
          go_wp2_with fail
          go_ret
          exact ⟨retB (by rw [HE.out]; rfl), hb⟩
      · have t1 : (f.kind == 1) = false := by simp [h5]
        have t2 : (f.kind == 2) = false := by simp [h5]
        have t3 : (f.kind == 3) = false := by simp [h5]
        have t4 : (f.kind == 4) = false := by simp [h5]
        have t5 : (f.kind == 5) = true := by simp [h5]
        rw [if_neg (by omega)] at hE
        have HE : Hid (Fm.holds p f = joinB 5 b0 b1) := Lib.hid (by rw [hE, h5])
        clear hE h5 hX m0 m1 m2 m3 m4 m5 m6 m7 m8 m9 hat
        cases b0 <;> cases b1
        all_goals
          go_wp2_with fail
          go_ret
          exact ⟨retB (by rw [HE.out]; rfl), hb⟩
      · have t1 : (f.kind == 1) = false := by simp [h6]
        have t2 : (f.kind == 2) = false := by simp [h6]
        have t3 : (f.kind == 3) = false := by simp [h6]
        have t4 : (f.kind == 4) = false := by simp [h6]
        have t5 : (f.kind == 5) = false := by simp [h6]
        rw [if_neg (by omega)] at hE
        have HE : Hid (Fm.holds p f = joinB 6 b0 b1) := Lib.hid (by rw [hE, h6])
        clear hE h6 hX m0 m1 m2 m3 m4 m5 m6 m7 m8 m9 hat
        cases b0 <;> cases b1
        all_goals
          go_wp2_with fail
          go_ret
          exact ⟨retB (by rw [HE.out]; rfl), hb⟩
set_option maxRecDepth 100000 in
set_option maxHeartbeats 2000000 in
theorem formIs_any (f : Fm) (bs : List Bool) (vs : List Value) (ff : List Nat) (v : Value) (g : List Nat) (w : World) (hbig : wtV f.cd ≤ 1048576) (hv : RdVs w f.cd vs ff) (hx : Rd w (.sl (bs.map boolCd)) v g) (r0 r1 : Bool) (hr : isF f bs = (r0, r1)) :
    Calls Try.prog 15 #[.agg vs.toArray, v] w fun e w' => e = .returned (.tuple #[.bool r0, .bool r1]) ∧ Below w.heap.size w w' := by
  have hv0 := hv
  obtain ⟨a3, c3, f3, a5, c5, f5, a6, c6, f6, a7, c7, f7, a11, c11, f11, rfl, -, m0, m1, m2, m3, m4, m5, m6, m7, m8, m9⟩ := Fm.open hv
  clear hv
  obtain ⟨av, cv, rfl, hc1, hc2⟩ := rd_sl_inv hx
  have HX := Lib.hid hx
  clear hx
  have hln := Fm.add_len f []
  go_enter Try.func15, Try.ntmps15
  go_wp2_with fail
  refine (isForm_any f _ _ _ hbig (by exact (hv0.below (below_alloc _ _)).below (below_alloc _ _))).mono ?_
  rintro e w1 ⟨rfl, hb1⟩
  obtain ⟨hX, hY, hz1, hB⟩ := box2 (w := w) (wr := w1) (cs := #[.int .i64 f.kind, .int .i64 f.lit.atom.kind, .string f.lit.atom.a.name, .slice a3 f.lit.atom.a.kids.length c3, .string f.lit.atom.b.name, .slice a5 f.lit.atom.b.kids.length c5, .slice a6 f.lit.atom.nums.length c6, .slice a7 f.lit.atom.times.length c7, .int .i64 f.lit.atom.bound, .bool f.lit.atom.strict, .bool f.lit.no, .slice a11 f.kids.length c11]) (ds := #[.slice av bs.length cv]) (T := 43) (U := 44) (below_size hb1 (by simp))
  have P0 := hY 0
  have hx := hX
  have C0 := hx 0
  have C1 := hx 1
  have C2 := hx 2
  have C3 := hx 3
  have C4 := hx 4
  have C5 := hx 5
  have C6 := hx 6
  have C7 := hx 7
  have C8 := hx 8
  have C9 := hx 9
  have C10 := hx 10
  have C11 := hx 11
  simp only [List.getElem?_toArray, List.getElem?_cons_zero, List.getElem?_cons_succ] at C0 C1 C2 C3 C4 C5 C6 C7 C8 C9 C10 C11
  simp only [List.getElem?_toArray, List.getElem?_cons_zero, List.getElem?_cons_succ] at P0
  clear hb1 hx
  cases hok : f.okF
  · obtain ⟨rfl, rfl⟩ : false = r0 ∧ false = r1 := by have h := isF_no (vs := bs) hok; rw [hr] at h; simpa [Prod.ext_iff, eq_comm] using h
    clear hok hr
    go_wp2_with fail
    go_ret2
    exact ⟨rfl, hB⟩
  · have hsh := Fm.okF_shape hok
    have hha := Fm.okF_has hok
    go_wp2_with fail
    refine (withAtoms_n _ f [] _ _ (.slice none 0 0) [] w1.heap.size _ (Nat.le_refl _) hbig (by simp; omega) (Nat.le_refl _) (Own.nil _ _ _ _) (Fresh.nil _ _) (by exact hv0.below hB) (by simp [Value.ownBlock])).mono ?_
    rintro e w2 ⟨lv, fp, rfl, hown, hfr, hm⟩
    have hB12 := hm.toBelow (B := w1.heap.size) (Nat.le_refl _) (by simp [Value.ownBlock])
    have hB2 := hB.trans (hB12.mono hB.size)
    obtain ⟨fp', hrd, hfr', _⟩ := hown.fresh hfr
    obtain ⟨la, lc, rfl, _, _⟩ := hown.form
    rw [List.length_map] at hrd
    have P2 := cell_keep P0 hB12
    have hX2 := cells_later hX (by omega) hB12
    have hz2 := hB12.size
    rw [List.length_map]
    clear hm hown hfr C0 C1 C2 C3 C4 C5 C6 C7 C8 C9 C10 C11 P0 hX
    have hb3 := below_alloc w2 (.cells #[.slice la (Fm.add [] f).length lc] 74)
    have P3 := cell_keep P2 hb3
    have hX3 := cells_later hX2 (by omega) hb3
    have hx := hX3
    have C0 := hx 0
    have C1 := hx 1
    have C2 := hx 2
    have C3 := hx 3
    have C4 := hx 4
    have C5 := hx 5
    have C6 := hx 6
    have C7 := hx 7
    have C8 := hx 8
    have C9 := hx 9
    have C10 := hx 10
    have C11 := hx 11
    simp only [List.getElem?_toArray, List.getElem?_cons_zero, List.getElem?_cons_succ] at C0 C1 C2 C3 C4 C5 C6 C7 C8 C9 C10 C11
    have L3 := cell_new w2 #[.slice la (Fm.add [] f).length lc] 74 0
    simp only [List.getElem?_toArray, List.getElem?_cons_zero, List.getElem?_cons_succ] at L3
    have hs0 : w.heap.size < (w2.alloc (.cells #[.slice la (Fm.add [] f).length lc] 74)).heap.size := by simp; omega
    have hs1 : w.heap.size + 1 < (w2.alloc (.cells #[.slice la (Fm.add [] f).length lc] 74)).heap.size := by simp; omega
    clear hx hX3 hX2
    by_cases hle : (Fm.add [] f).length = bs.length
    rotate_left
    · obtain ⟨rfl, rfl⟩ : false = r0 ∧ false = r1 := by have h := isF_len (f := f) (vs := bs) hle; rw [hr] at h; simpa [Prod.ext_iff, eq_comm] using h
      have tl : (((Fm.add [] f).length : Int) != (bs.length : Int)) = true := by simp; omega
      clear hok hr
      go_wp2_with fail
      go_ret2
      exact ⟨rfl, hB2.trans (hb3.mono hB2.size)⟩
    · obtain ⟨hr0, rfl⟩ : Fm.holds (valA (Fm.add [] f) bs) f = r0 ∧ true = r1 := by have h := isF_yes hok hle; rw [hr] at h; simp only [Prod.mk.injEq] at h; exact ⟨h.1.symm, h.2.symm⟩
      have HR := Lib.hid hr0
      have tl : (((Fm.add [] f).length : Int) != (bs.length : Int)) = false := by simp; omega
      have hB3 := hB2.trans (hb3.mono hB2.size)
      have hz3 := hB3.size
      have HLE := Lib.hid hle
      clear hok hr hr0 hle
      go_wp2_with fail
      refine (holds_n (Fm.add [] f) (valA (Fm.add [] f) bs) (w.heap.size + 1) w2.heap.size _ f 5 _ _ _ (Nat.le_refl _) hsh hha (by exact hv0.below hB3) (Lib.hid fun W hW y us' g' hy hin => isAtom_c (Fm.add [] f) bs y us' g' (w.heap.size + 1) w2.heap.size av cv _ la lc _ W (cell_keep P3 hW) (cell_keep L3 hW) (by exact (HX.out.below hB3).below hW) ((hrd.below hb3).below hW) hy HLE.out hin)).mono ?_
      rintro e w4 ⟨rfl, hb4⟩
      rw [HR.out]
      go_wp2_with fail
      go_ret2
      exact ⟨rfl, hB3.trans (hb4.mono hB3.size)⟩
end Go.Proofs.Ytlhochahokbonaa
