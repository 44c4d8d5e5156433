/- Copies of atoms, literals, forms. -/
import Derived.Test.YteclckgihmaebaaGreatOwn
import Derived.Test.YteclckgihmaebaaGreatAtomO
import Derived.Test.YteclckgihmaebaaGreatLitT
namespace Go.Proofs.YteclckgihmaebaaGreat
open Go Go.RowKit
set_option linter.unusedVariables false
set_option linter.unusedSimpArgs false


set_option maxHeartbeats 1600000
theorem Lt.of_atom {w : World} {x : Lt} {vs : List Value} {f : List Nat} (h : RdVs w x.atom.cd vs f) : RdVs w x.cd (vs ++ [.bool x.no]) f := by
  have h1 := h.app (rd_bool_mk (b := x.no))
  simpa [Lt.cd] using h1
theorem formOwn_n (n : Nat) : ∀ (x : Fm) (vs : List Value) (fp : List Nat) (w : World), ndV x.cd ≤ n → wtV x.cd ≤ 1048576 → RdVs w x.cd vs fp → Calls Tryz.prog 59 #[.agg vs.toArray] w (ToOutV x.cd w) := by
  induction n with
  | zero => intro x vs fp w hn; have h : 0 < ndV x.cd := by rw [Fm.cd_eq]; simp [ndV, ndC]; try omega
            omega
  | succ n ih =>
    intro x vs fp w hn hbig hv
    have HK : Hid (∀ k ∈ x.kids, ndV k.cd ≤ n) := fun k hk => by have := Fm.kid_nd hk; omega
    have IH := Lib.hid ih
    clear ih
    obtain ⟨a3, c3, f3, a5, c5, f5, a6, c6, f6, a7, c7, f7, a11, c11, f11, rfl, -, m0, m1, m2, m3, m4, m5, m6, m7, m8, m9⟩ := Fm.open hv
    have hw : wtV x.cd = wtV x.lit.cd + (x.kids.length + wtR (x.kids.map Fm.cd)) := by rw [Fm.cd_eq]; simp only [wtV_append, wtV_int, wtV_bool, wtV_str, wtV_sl]; try omega
    rw [hw] at hbig
    clear hw hv
    go_enter Tryz.func59, Tryz.ntmps59
    go_wp2_with fail
    refine (atomOwn_any x.lit.atom _ _ _ (Lt.small_of (x := x.lit) (by omega)) (Lt.times_ok (x := x.lit) (by omega)) (by exact (Atm.close m1 m2 m3 m4 m5 m6 m7 m8).below (((Below.refl _ _).alloc (Nat.le_refl _) _).alloc (by simp) _))).mono ?_
    rintro e w1 ⟨kv1, g1, rfl, hr1, hf1, hb1⟩
    have hbx : Below (w.heap.size + 1 + 1) _ w1 := below_size hb1 (by simp)
    obtain ⟨ho1, hy1, hz1, hB1⟩ := box2 hbx
    have fo1 : ∀ j, w1.frozen? ⟨w.heap.size, j, none⟩ = false := fun j => (box2_free hbx j).1
    have fy1 : ∀ j, w1.frozen? ⟨w.heap.size + 1, j, none⟩ = false := fun j => (box2_free hbx j).2
    clear hbx
    have hf1 : Fresh (w.heap.size + 1 + 1) w1 g1 := hf1.mono (by simp)
    have hF1 := hf1
    obtain ⟨b3, e3, gg1_2, b5, e5, gg1_4, b6, e6, gg1_5, b7, e7, gg1_6, rfl, -, _, _, _, _, _, _, _, _⟩ := Atm.open hr1
    clear hb1
    go_wp2_with fail
    have hoA := cells_sets (b := w.heap.size) [(1, .int .i64 x.lit.atom.kind), (2, .string x.lit.atom.a.name), (3, .slice b3 x.lit.atom.a.kids.length e3), (4, .string x.lit.atom.b.name), (5, .slice b5 x.lit.atom.b.kids.length e5), (6, .slice b6 x.lit.atom.nums.length e6), (7, .slice b7 x.lit.atom.times.length e7), (8, .int .i64 x.lit.atom.bound), (9, .bool x.lit.atom.strict)] ho1 (by simp)
    have hyA := cells_sets_other (b' := w.heap.size) (by omega) [(1, .int .i64 x.lit.atom.kind), (2, .string x.lit.atom.a.name), (3, .slice b3 x.lit.atom.a.kids.length e3), (4, .string x.lit.atom.b.name), (5, .slice b5 x.lit.atom.b.kids.length e5), (6, .slice b6 x.lit.atom.nums.length e6), (7, .slice b7 x.lit.atom.times.length e7), (8, .int .i64 x.lit.atom.bound), (9, .bool x.lit.atom.strict)] hy1
    have fyA := free_sets (b' := w.heap.size) [(1, .int .i64 x.lit.atom.kind), (2, .string x.lit.atom.a.name), (3, .slice b3 x.lit.atom.a.kids.length e3), (4, .string x.lit.atom.b.name), (5, .slice b5 x.lit.atom.b.kids.length e5), (6, .slice b6 x.lit.atom.nums.length e6), (7, .slice b7 x.lit.atom.times.length e7), (8, .int .i64 x.lit.atom.bound), (9, .bool x.lit.atom.strict)] fy1
    have foA := free_sets (b' := w.heap.size) [(1, .int .i64 x.lit.atom.kind), (2, .string x.lit.atom.a.name), (3, .slice b3 x.lit.atom.a.kids.length e3), (4, .string x.lit.atom.b.name), (5, .slice b5 x.lit.atom.b.kids.length e5), (6, .slice b6 x.lit.atom.nums.length e6), (7, .slice b7 x.lit.atom.times.length e7), (8, .int .i64 x.lit.atom.bound), (9, .bool x.lit.atom.strict)] fo1
    have hLA := Loc.sets (b := w.heap.size) (lo := w.heap.size) (hi := w.heap.size + 1 + 1) (by omega) (by omega) [(1, .int .i64 x.lit.atom.kind), (2, .string x.lit.atom.a.name), (3, .slice b3 x.lit.atom.a.kids.length e3), (4, .string x.lit.atom.b.name), (5, .slice b5 x.lit.atom.b.kids.length e5), (6, .slice b6 x.lit.atom.nums.length e6), (7, .slice b7 x.lit.atom.times.length e7), (8, .int .i64 x.lit.atom.bound), (9, .bool x.lit.atom.strict)] (Loc.refl _ _ w1)
    have hBA := hB1.trans (hLA.toBelow (B := w.heap.size) (by omega) (Nat.le_refl _))
    have hsA := hLA.size
    try simp only [setAt, updAll, List.set_cons_zero, List.set_cons_succ] at hoA hyA fyA foA hLA hBA hsA
    clear hy1 ho1 fy1 fo1
    refine (ownForms_n n IH.out x.kids _ _ _ HK.out (by omega) (by exact m9.below hBA)).mono ?_
    rintro e w2 ⟨kv2, g2, rfl, hr2, hf2, hb2⟩
    have hzA : w.heap.size + 1 + 1 ≤ _ := Nat.le_trans hz1 hsA
    have hy2 := cells_later hyA (by omega) hb2
    have ho2 := cells_later hoA (by omega) hb2
    have fy2 := free_later fyA (by omega) hb2
    have fo2 := free_later foA (by omega) hb2
    have hL2 : Loc w.heap.size (w.heap.size + 1 + 1) w1 w2 := hLA.below hb2
    have hz2 := Nat.le_trans hz1 hL2.size
    have hB2 := hB1.trans (hL2.toBelow (by omega) (Nat.le_refl _))
    have hf2' : Fresh w1.heap.size w2 g2 := hf2.mono hsA
    have hf2 : Fresh (w.heap.size + 1 + 1) w2 g2 := hf2'.mono hz1
    have hF2 := Fresh.app2 (hF1.same (hL2.same (w0 := w) hF1)) hF1.lt hf2' (by omega)
    have hr1 := hr1.same _ (hL2.same (w0 := w) hf1)
    have hf1 := hf1.same (hL2.same (w0 := w) hf1)
    clear hoA hyA fyA foA hLA hBA hsA hzA
    obtain ⟨b11, e11, rfl, _⟩ := rd_sl_inv hr2
    clear hb2
    go_upto_region 3 with (fail)
    have hoA := cells_sets (b := w.heap.size) [(11, .slice b11 x.kids.length e11)] ho2 (by simp)
    have hyA := cells_sets_other (b' := w.heap.size) (by omega) [(11, .slice b11 x.kids.length e11)] hy2
    have fyA := free_sets (b' := w.heap.size) [(11, .slice b11 x.kids.length e11)] fy2
    have foA := free_sets (b' := w.heap.size) [(11, .slice b11 x.kids.length e11)] fo2
    have hLA := Loc.sets (b := w.heap.size) (lo := w.heap.size) (hi := w.heap.size + 1 + 1) (by omega) (by omega) [(11, .slice b11 x.kids.length e11)] (Loc.refl _ _ w2)
    simp only [updAll, List.set_cons_zero, List.set_cons_succ] at hoA
    obtain ⟨wx, hwx⟩ : ∃ wx, wx = setAt (w.heap.size) [(11, .slice b11 x.kids.length e11)] w2 := ⟨_, rfl⟩
    change Code.wp _ _ _ _ (setAt (w.heap.size) [(11, .slice b11 x.kids.length e11)] w2)
    rw [← hwx] at hoA hyA fyA foA hLA ⊢
    have hsA := hLA.size
    clear hwx hy2 ho2 fy2 fo2
    go_wp2_with fail
    have hres := cells_sets (b := w.heap.size + 1) [(0, .int .i64 x.kind), (1, .int .i64 x.lit.atom.kind), (2, .string x.lit.atom.a.name), (3, .slice b3 x.lit.atom.a.kids.length e3), (4, .string x.lit.atom.b.name), (5, .slice b5 x.lit.atom.b.kids.length e5), (6, .slice b6 x.lit.atom.nums.length e6), (7, .slice b7 x.lit.atom.times.length e7), (8, .int .i64 x.lit.atom.bound), (9, .bool x.lit.atom.strict), (10, .bool x.lit.no), (11, .slice b11 x.kids.length e11)] hyA (by simp)
    have hL := Loc.sets (b := w.heap.size + 1) (by omega) (by omega) [(0, .int .i64 x.kind), (1, .int .i64 x.lit.atom.kind), (2, .string x.lit.atom.a.name), (3, .slice b3 x.lit.atom.a.kids.length e3), (4, .string x.lit.atom.b.name), (5, .slice b5 x.lit.atom.b.kids.length e5), (6, .slice b6 x.lit.atom.nums.length e6), (7, .slice b7 x.lit.atom.times.length e7), (8, .int .i64 x.lit.atom.bound), (9, .bool x.lit.atom.strict), (10, .bool x.lit.no), (11, .slice b11 x.kids.length e11)] hLA
    simp only [setAt, updAll, List.set_cons_zero, List.set_cons_succ] at hres hL
    have hr1 := hr1.same _ (hL.same (w0 := w) hf1)
    have hr2 := hr2.same _ (hL.same (w0 := w) hf2)
    have hfin := hF2.same (hL.same (w0 := w) hF2)
    refine bodyPost_ret (v := .agg #[.int .i64 x.kind, .int .i64 x.lit.atom.kind, .string x.lit.atom.a.name, .slice b3 x.lit.atom.a.kids.length e3, .string x.lit.atom.b.name, .slice b5 x.lit.atom.b.kids.length e5, .slice b6 x.lit.atom.nums.length e6, .slice b7 x.lit.atom.times.length e7, .int .i64 x.lit.atom.bound, .bool x.lit.atom.strict, .bool x.lit.no, .slice b11 x.kids.length e11]) (by simp [results, Tryz.results59, go_sem, hres]) rfl ⟨[.int .i64 x.kind, .int .i64 x.lit.atom.kind, .string x.lit.atom.a.name, .slice b3 x.lit.atom.a.kids.length e3, .string x.lit.atom.b.name, .slice b5 x.lit.atom.b.kids.length e5, .slice b6 x.lit.atom.nums.length e6, .slice b7 x.lit.atom.times.length e7, .int .i64 x.lit.atom.bound, .bool x.lit.atom.strict, .bool x.lit.no, .slice b11 x.kids.length e11], [] ++ (g1 ++ g2), rfl, ?_, ?_, hB2.trans (hL.toBelow (by omega) (Nat.le_refl _))⟩
    · rw [Fm.cd_eq]
      exact ((rd_int_mk m0).app ((Lt.of_atom hr1).app (RdVs.single hr2)))
    · have hx := hfin.mono (lo' := w.heap.size) (by omega)
      simpa [List.append_assoc] using hx
theorem ownForms_x (xs : List Fm) (v : Value) (fp0 : List Nat) (w : World) (hbig : xs.length + wtR (xs.map Fm.cd) ≤ 1048576) (hv : Rd w (.sl (xs.map Fm.cd)) v fp0) :
    Calls Tryz.prog 37 #[v] w (ToOut (.sl (xs.map Fm.cd)) w) :=
  ownForms_n (ndR (xs.map Fm.cd)) (formOwn_n _) xs v fp0 w (fun x hx => Nat.le_of_lt (ndR_mem (List.mem_map_of_mem hx))) hbig hv
theorem formOwn_x (x : Fm) (vs : List Value) (fp : List Nat) (w : World) (hbig : wtV x.cd ≤ 1048576) (hv : RdVs w x.cd vs fp) :
    Calls Tryz.prog 59 #[.agg vs.toArray] w (ToOutV x.cd w) := formOwn_n _ x vs fp w (Nat.le_refl _) hbig hv
end Go.Proofs.YteclckgihmaebaaGreat
