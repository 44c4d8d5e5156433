/- Copies of atoms, literals, forms. -/
import Derived.Test.YtaogaddgfllkpaaOwn
import Derived.Test.YtaogaddgfllkpaaAtomO
import Derived.Test.YtaogaddgfllkpaaLitT
namespace Go.Proofs.Ytaogaddgfllkpaa
open Go Go.RowKit
set_option linter.unusedVariables false
set_option linter.unusedSimpArgs false


set_option maxHeartbeats 1600000
theorem Lt.times_ok {x : Lt} (h : wtV x.cd ≤ 1048576) : x.atom.times.length ≤ 1048576 := by
  rw [Lt.cd, wtV_append] at h
  simp only [Atm.cd, wtV_append, wtV_int, wtV_bool, wtV_sl, List.length_map] at h
  omega
theorem Lt.of_atom {w : World} {x : Lt} {vs : List Value} {f : List Nat} (h : RdVs w x.atom.cd vs f) : RdVs w x.cd (vs ++ [.bool x.no]) f := by
  have h1 := h.app (rd_bool_mk (b := x.no))
  simpa [Lt.cd] using h1
theorem l16OwnAtom_x (x : Atm) (vs : List Value) (fp : List Nat) (w : World) (hbig : wtV x.cd ≤ 1048576) (hv : RdVs w x.cd vs fp) :
    Calls Try.prog 209 #[.agg vs.toArray] w (ToOutV x.cd w) := by
  obtain ⟨a2, c2, f2, a4, c4, f4, a5, c5, f5, a6, c6, f6, rfl, -, m0, m1, m2, m3, m4, m5, m6, m7⟩ := Atm.open hv
  have hw : wtV x.cd = wtV x.a.cd + wtV x.b.cd + (x.nums.length + wtR (x.nums.map Tm.cd)) + (x.times.length + wtR (x.times.map intCd)) := by unfold Atm.cd; simp only [wtV_append, wtV_int, wtV_bool, wtV_str, wtV_sl]; try omega
  rw [hw] at hbig
  clear hw hv
  go_enter Try.func209, Try.ntmps209
  go_wp2_with fail
  refine (l16OwnTerm_x x.a _ _ _ (by omega) (by exact (Tm.close m1 m2).below (((Below.refl _ _).alloc (Nat.le_refl _) _).alloc (by simp) _))).mono ?_
  rintro e w1 ⟨kv1, g1, rfl, hr1, hf1, hb1⟩
  have hbx : Below (w.heap.size + 1 + 1) _ w1 := below_size hb1 (by simp)
  obtain ⟨ho1, hy1, hz1, hB1⟩ := box2 hbx
  have fo1 : ∀ j, w1.frozen? ⟨w.heap.size, j, none⟩ = false := fun j => (box2_free hbx j).1
  have fy1 : ∀ j, w1.frozen? ⟨w.heap.size + 1, j, none⟩ = false := fun j => (box2_free hbx j).2
  clear hbx
  have hf1 : Fresh (w.heap.size + 1 + 1) w1 g1 := hf1.mono (by simp)
  have hF1 := hf1
  obtain ⟨b2, e2, gg1_1, rfl, -, _, _⟩ := Tm.open hr1
  clear hb1
  go_wp2_with fail
  have hoA := cells_sets (b := w.heap.size) [(1, .string x.a.name), (2, .slice b2 x.a.kids.length e2)] ho1 (by simp)
  have hyA := cells_sets_other (b' := w.heap.size) (by omega) [(1, .string x.a.name), (2, .slice b2 x.a.kids.length e2)] hy1
  have fyA := free_sets (b' := w.heap.size) [(1, .string x.a.name), (2, .slice b2 x.a.kids.length e2)] fy1
  have foA := free_sets (b' := w.heap.size) [(1, .string x.a.name), (2, .slice b2 x.a.kids.length e2)] fo1
  have hLA := Loc.sets (b := w.heap.size) (lo := w.heap.size) (hi := w.heap.size + 1 + 1) (by omega) (by omega) [(1, .string x.a.name), (2, .slice b2 x.a.kids.length e2)] (Loc.refl _ _ w1)
  have hBA := hB1.trans (hLA.toBelow (B := w.heap.size) (by omega) (Nat.le_refl _))
  have hsA := hLA.size
  try simp only [setAt, updAll, List.set_cons_zero, List.set_cons_succ] at hoA hyA fyA foA hLA hBA hsA
  clear hy1 ho1 fy1 fo1
  refine (l16OwnTerm_x x.b _ _ _ (by omega) (by exact (Tm.close m3 m4).below hBA)).mono ?_
  rintro e w2 ⟨kv2, g2, rfl, hr2, hf2, hb2⟩
  have hzA : w.heap.size + 1 + 1 ≤ _ := Nat.le_trans hz1 hsA
  have hy2 := cells_later hyA (by omega) hb2
  have ho2 := cells_later hoA (by omega) hb2
  have fy2 := free_later fyA (by omega) hb2
  have fo2 := free_later foA (by omega) hb2
  have hL2 : Loc w.heap.size (w.heap.size + 1 + 1) w1 w2 := hLA.below hb2
  have hz2 := Nat.le_trans hz1 hL2.size
  have hB2 := hB1.trans (hL2.toBelow (by omega) (Nat.le_refl _))
  have hf2' : Fresh w1.heap.size w2 g2 := hf2.mono hsA
  have hf2 : Fresh (w.heap.size + 1 + 1) w2 g2 := hf2'.mono hz1
  have hF2 := Fresh.app2 (hF1.same (hL2.same (w0 := w) hF1)) hF1.lt hf2' (by omega)
  have hr1 := hr1.same _ (hL2.same (w0 := w) hf1)
  have hf1 := hf1.same (hL2.same (w0 := w) hf1)
  clear hoA hyA fyA foA hLA hBA hsA hzA
  obtain ⟨b4, e4, gg2_1, rfl, -, _, _⟩ := Tm.open hr2
  clear hb2
  go_wp2_with fail
  have hoA := cells_sets (b := w.heap.size) [(3, .string x.b.name), (4, .slice b4 x.b.kids.length e4)] ho2 (by simp)
  have hyA := cells_sets_other (b' := w.heap.size) (by omega) [(3, .string x.b.name), (4, .slice b4 x.b.kids.length e4)] hy2
  have fyA := free_sets (b' := w.heap.size) [(3, .string x.b.name), (4, .slice b4 x.b.kids.length e4)] fy2
  have foA := free_sets (b' := w.heap.size) [(3, .string x.b.name), (4, .slice b4 x.b.kids.length e4)] fo2
  have hLA := Loc.sets (b := w.heap.size) (lo := w.heap.size) (hi := w.heap.size + 1 + 1) (by omega) (by omega) [(3, .string x.b.name), (4, .slice b4 x.b.kids.length e4)] (Loc.refl _ _ w2)
  have hBA := hB2.trans (hLA.toBelow (B := w.heap.size) (by omega) (Nat.le_refl _))
  have hsA := hLA.size
  try simp only [setAt, updAll, List.set_cons_zero, List.set_cons_succ] at hoA hyA fyA foA hLA hBA hsA
  clear hy2 ho2 fy2 fo2
  refine (l16OwnListTerm_x x.nums _ _ _ (by omega) (by exact m5.below hBA)).mono ?_
  rintro e w3 ⟨kv3, g3, rfl, hr3, hf3, hb3⟩
  have hzA : w.heap.size + 1 + 1 ≤ _ := Nat.le_trans hz2 hsA
  have hy3 := cells_later hyA (by omega) hb3
  have ho3 := cells_later hoA (by omega) hb3
  have fy3 := free_later fyA (by omega) hb3
  have fo3 := free_later foA (by omega) hb3
  have hL3 : Loc w.heap.size (w.heap.size + 1 + 1) w2 w3 := hLA.below hb3
  have hz3 := Nat.le_trans hz2 hL3.size
  have hB3 := hB2.trans (hL3.toBelow (by omega) (Nat.le_refl _))
  have hf3' : Fresh w2.heap.size w3 g3 := hf3.mono hsA
  have hf3 : Fresh (w.heap.size + 1 + 1) w3 g3 := hf3'.mono hz2
  have hF3 := Fresh.app2 (hF2.same (hL3.same (w0 := w) hF2)) hF2.lt hf3' (by omega)
  have hr1 := hr1.same _ (hL3.same (w0 := w) hf1)
  have hf1 := hf1.same (hL3.same (w0 := w) hf1)
  have hr2 := hr2.same _ (hL3.same (w0 := w) hf2)
  have hf2 := hf2.same (hL3.same (w0 := w) hf2)
  clear hoA hyA fyA foA hLA hBA hsA hzA
  obtain ⟨b5, e5, rfl, _⟩ := rd_sl_inv hr3
  clear hb3
  go_upto_region 4 with (fail)
  have hoA := cells_sets (b := w.heap.size) [(5, .slice b5 x.nums.length e5)] ho3 (by simp)
  have hyA := cells_sets_other (b' := w.heap.size) (by omega) [(5, .slice b5 x.nums.length e5)] hy3
  have fyA := free_sets (b' := w.heap.size) [(5, .slice b5 x.nums.length e5)] fy3
  have foA := free_sets (b' := w.heap.size) [(5, .slice b5 x.nums.length e5)] fo3
  have hLA := Loc.sets (b := w.heap.size) (lo := w.heap.size) (hi := w.heap.size + 1 + 1) (by omega) (by omega) [(5, .slice b5 x.nums.length e5)] (Loc.refl _ _ w3)
  simp only [updAll, List.set_cons_zero, List.set_cons_succ] at hoA
  obtain ⟨wy, hwy⟩ : ∃ wy, wy = setAt (w.heap.size) [(5, .slice b5 x.nums.length e5)] w3 := ⟨_, rfl⟩
  change Code.wp _ _ _ _ (setAt (w.heap.size) [(5, .slice b5 x.nums.length e5)] w3)
  rw [← hwy] at hoA hyA fyA foA hLA ⊢
  clear hwy
  have hBA := hB3.trans (hLA.toBelow (B := w.heap.size) (by omega) (Nat.le_refl _))
  have hsA := hLA.size
  try simp only [setAt, updAll, List.set_cons_zero, List.set_cons_succ] at hoA hyA fyA foA hLA hBA hsA
  clear hy3 ho3 fy3 fo3
  have hlx : w.heap.size + 1 + 1 ≤ wy.heap.size := Nat.le_trans hz3 hsA
  have hlp : w.heap.size < wy.heap.size := by omega
  go_wp2_with (at_builtin; refine wpList_appAny slTyIntS rfl _ _ rfl (w.heap.size + 1 + 1) _ [] [] rfl (Own.empty wy (w.heap.size + 1 + 1) _ _ hlx) (x.times.map intCd) (.slice a6 x.times.length c6) f6 rfl (by exact m6.below (hBA.trans ((below_alloc _ _).mono hBA.size))) ?k ?na ?bytes ?len ?base ?next)
  case k => simp only [List.mem_map]; rintro e ⟨t, _, rfl⟩; exact intCd_len t
  case na => intro b hb h; have h1 := m6.lt _ b hb; have h2 : wy.heap.size = b := Option.some.inj h; omega
  case bytes => simp; omega
  case len => simp; omega
  case base => simp; omega
  intro vT w4 nfp hnf hown4 hg hv4 hs4
  have hb4 := grown_below (below_alloc wy (.cells #[] 3)) hg (by simp) (fun q hq => by have h2 : wy.heap.size = q := Option.some.inj hq; omega)
  try simp only [List.nil_append] at hown4
  obtain rfl : nfp = [] := by obtain ⟨ys, _, h, _⟩ := hown4; exact ints_nofp x.times _ _ _ h
  have hown5 : Own w4 wy.heap.size 3 1 vT (x.times.map intCd) [] := hown4.base (fun b h => by rcases hv4 b h with h1 | h1; exact Nat.le_of_eq (Option.some.inj h1); have hsz4 : (wy.alloc (.cells #[] 3)).heap.size = wy.heap.size + 1 := (by simp); omega)
  obtain ⟨g4, hr4, hf4, _⟩ := hown5.fresh (Fresh.nil _ _)
  clear hg hs4 hown4 hown5 hv4 hnf
  have hzA : w.heap.size + 1 + 1 ≤ _ := Nat.le_trans hz3 hsA
  have hy4 := cells_later hyA (by omega) hb4
  have ho4 := cells_later hoA (by omega) hb4
  have fy4 := free_later fyA (by omega) hb4
  have fo4 := free_later foA (by omega) hb4
  have hL4 : Loc w.heap.size (w.heap.size + 1 + 1) w3 w4 := hLA.below hb4
  have hz4 := Nat.le_trans hz3 hL4.size
  have hB4 := hB3.trans (hL4.toBelow (by omega) (Nat.le_refl _))
  have hf4' : Fresh w3.heap.size w4 g4 := hf4.mono hsA
  have hf4 : Fresh (w.heap.size + 1 + 1) w4 g4 := hf4'.mono hz3
  have hF4 := Fresh.app2 (hF3.same (hL4.same (w0 := w) hF3)) hF3.lt hf4' (by omega)
  have hr1 := hr1.same _ (hL4.same (w0 := w) hf1)
  have hf1 := hf1.same (hL4.same (w0 := w) hf1)
  have hr2 := hr2.same _ (hL4.same (w0 := w) hf2)
  have hf2 := hf2.same (hL4.same (w0 := w) hf2)
  have hr3 := hr3.same _ (hL4.same (w0 := w) hf3)
  have hf3 := hf3.same (hL4.same (w0 := w) hf3)
  clear hoA hyA fyA foA hLA hBA hsA hzA
  obtain ⟨b6, e6, rfl, _⟩ := rd_sl_inv hr4
  clear hb4
  go_upto_region 5 with (fail)
  have hoA := cells_sets (b := w.heap.size) [(6, .slice b6 x.times.length e6)] ho4 (by simp)
  have hyA := cells_sets_other (b' := w.heap.size) (by omega) [(6, .slice b6 x.times.length e6)] hy4
  have fyA := free_sets (b' := w.heap.size) [(6, .slice b6 x.times.length e6)] fy4
  have foA := free_sets (b' := w.heap.size) [(6, .slice b6 x.times.length e6)] fo4
  have hLA := Loc.sets (b := w.heap.size) (lo := w.heap.size) (hi := w.heap.size + 1 + 1) (by omega) (by omega) [(6, .slice b6 x.times.length e6)] (Loc.refl _ _ w4)
  simp only [updAll, List.set_cons_zero, List.set_cons_succ] at hoA
  obtain ⟨wx, hwx⟩ : ∃ wx, wx = setAt (w.heap.size) [(6, .slice b6 x.times.length e6)] w4 := ⟨_, rfl⟩
  change Code.wp _ _ _ _ (setAt (w.heap.size) [(6, .slice b6 x.times.length e6)] w4)
  rw [← hwx] at hoA hyA fyA foA hLA ⊢
  have hsA := hLA.size
  clear hwx hy4 ho4 fy4 fo4
  go_wp2_with fail
  have hres := cells_sets (b := w.heap.size + 1) [(0, .int .i64 x.kind), (1, .string x.a.name), (2, .slice b2 x.a.kids.length e2), (3, .string x.b.name), (4, .slice b4 x.b.kids.length e4), (5, .slice b5 x.nums.length e5), (6, .slice b6 x.times.length e6), (7, .int .i64 x.bound), (8, .bool x.strict)] hyA (by simp)
  have hL := Loc.sets (b := w.heap.size + 1) (by omega) (by omega) [(0, .int .i64 x.kind), (1, .string x.a.name), (2, .slice b2 x.a.kids.length e2), (3, .string x.b.name), (4, .slice b4 x.b.kids.length e4), (5, .slice b5 x.nums.length e5), (6, .slice b6 x.times.length e6), (7, .int .i64 x.bound), (8, .bool x.strict)] hLA
  simp only [setAt, updAll, List.set_cons_zero, List.set_cons_succ] at hres hL
  have hr1 := hr1.same _ (hL.same (w0 := w) hf1)
  have hr2 := hr2.same _ (hL.same (w0 := w) hf2)
  have hr3 := hr3.same _ (hL.same (w0 := w) hf3)
  have hr4 := hr4.same _ (hL.same (w0 := w) hf4)
  have hfin := hF4.same (hL.same (w0 := w) hF4)
  refine bodyPost_ret (v := .agg #[.int .i64 x.kind, .string x.a.name, .slice b2 x.a.kids.length e2, .string x.b.name, .slice b4 x.b.kids.length e4, .slice b5 x.nums.length e5, .slice b6 x.times.length e6, .int .i64 x.bound, .bool x.strict]) (by simp [results, Try.results209, go_sem, hres]) rfl ⟨[.int .i64 x.kind, .string x.a.name, .slice b2 x.a.kids.length e2, .string x.b.name, .slice b4 x.b.kids.length e4, .slice b5 x.nums.length e5, .slice b6 x.times.length e6, .int .i64 x.bound, .bool x.strict], [] ++ (g1 ++ (g2 ++ (g3 ++ (g4 ++ ([] ++ []))))), rfl, ?_, ?_, hB4.trans (hL.toBelow (by omega) (Nat.le_refl _))⟩
  · unfold Atm.cd
    exact ((rd_int_mk m0).app (hr1.app (hr2.app ((RdVs.single hr3).app ((RdVs.single hr4).app ((rd_int_mk m7).app rd_bool_mk))))))
  · have hx := hfin.mono (lo' := w.heap.size) (by omega)
    simpa [List.append_assoc] using hx
theorem l16OwnLit_x (x : Lt) (vs : List Value) (fp : List Nat) (w : World) (hbig : wtV x.cd ≤ 1048576) (hv : RdVs w x.cd vs fp) :
    Calls Try.prog 155 #[.agg vs.toArray] w (ToOutV x.cd w) := by
  obtain ⟨a2, c2, f2, a4, c4, f4, a5, c5, f5, a6, c6, f6, rfl, -, m0, m1, m2, m3, m4, m5, m6, m7⟩ := Lt.open hv
  have hw : wtV x.cd = wtV x.atom.cd := by unfold Lt.cd; simp only [wtV_append, wtV_int, wtV_bool, wtV_str, wtV_sl]; try omega
  rw [hw] at hbig
  clear hw hv
  go_enter Try.func155, Try.ntmps155
  go_wp2_with fail
  refine (l16OwnAtom_x x.atom _ _ _ (by omega) (by exact (Atm.close m0 m1 m2 m3 m4 m5 m6 m7).below (((Below.refl _ _).alloc (Nat.le_refl _) _).alloc (by simp) _))).mono ?_
  rintro e w1 ⟨kv1, g1, rfl, hr1, hf1, hb1⟩
  have hbx : Below (w.heap.size + 1 + 1) _ w1 := below_size hb1 (by simp)
  obtain ⟨ho1, hy1, hz1, hB1⟩ := box2 hbx
  have fo1 : ∀ j, w1.frozen? ⟨w.heap.size, j, none⟩ = false := fun j => (box2_free hbx j).1
  have fy1 : ∀ j, w1.frozen? ⟨w.heap.size + 1, j, none⟩ = false := fun j => (box2_free hbx j).2
  clear hbx
  have hf1 : Fresh (w.heap.size + 1 + 1) w1 g1 := hf1.mono (by simp)
  have hF1 := hf1
  obtain ⟨b2, e2, gg1_2, b4, e4, gg1_4, b5, e5, gg1_5, b6, e6, gg1_6, rfl, -, _, _, _, _, _, _, _, _⟩ := Atm.open hr1
  clear hb1
  go_upto_region 2 with (fail)
  have hoA := cells_sets (b := w.heap.size) [(0, .int .i64 x.atom.kind), (1, .string x.atom.a.name), (2, .slice b2 x.atom.a.kids.length e2), (3, .string x.atom.b.name), (4, .slice b4 x.atom.b.kids.length e4), (5, .slice b5 x.atom.nums.length e5), (6, .slice b6 x.atom.times.length e6), (7, .int .i64 x.atom.bound), (8, .bool x.atom.strict)] ho1 (by simp)
  have hyA := cells_sets_other (b' := w.heap.size) (by omega) [(0, .int .i64 x.atom.kind), (1, .string x.atom.a.name), (2, .slice b2 x.atom.a.kids.length e2), (3, .string x.atom.b.name), (4, .slice b4 x.atom.b.kids.length e4), (5, .slice b5 x.atom.nums.length e5), (6, .slice b6 x.atom.times.length e6), (7, .int .i64 x.atom.bound), (8, .bool x.atom.strict)] hy1
  have fyA := free_sets (b' := w.heap.size) [(0, .int .i64 x.atom.kind), (1, .string x.atom.a.name), (2, .slice b2 x.atom.a.kids.length e2), (3, .string x.atom.b.name), (4, .slice b4 x.atom.b.kids.length e4), (5, .slice b5 x.atom.nums.length e5), (6, .slice b6 x.atom.times.length e6), (7, .int .i64 x.atom.bound), (8, .bool x.atom.strict)] fy1
  have foA := free_sets (b' := w.heap.size) [(0, .int .i64 x.atom.kind), (1, .string x.atom.a.name), (2, .slice b2 x.atom.a.kids.length e2), (3, .string x.atom.b.name), (4, .slice b4 x.atom.b.kids.length e4), (5, .slice b5 x.atom.nums.length e5), (6, .slice b6 x.atom.times.length e6), (7, .int .i64 x.atom.bound), (8, .bool x.atom.strict)] fo1
  have hLA := Loc.sets (b := w.heap.size) (lo := w.heap.size) (hi := w.heap.size + 1 + 1) (by omega) (by omega) [(0, .int .i64 x.atom.kind), (1, .string x.atom.a.name), (2, .slice b2 x.atom.a.kids.length e2), (3, .string x.atom.b.name), (4, .slice b4 x.atom.b.kids.length e4), (5, .slice b5 x.atom.nums.length e5), (6, .slice b6 x.atom.times.length e6), (7, .int .i64 x.atom.bound), (8, .bool x.atom.strict)] (Loc.refl _ _ w1)
  simp only [updAll, List.set_cons_zero, List.set_cons_succ] at hoA
  obtain ⟨wx, hwx⟩ : ∃ wx, wx = setAt (w.heap.size) [(0, .int .i64 x.atom.kind), (1, .string x.atom.a.name), (2, .slice b2 x.atom.a.kids.length e2), (3, .string x.atom.b.name), (4, .slice b4 x.atom.b.kids.length e4), (5, .slice b5 x.atom.nums.length e5), (6, .slice b6 x.atom.times.length e6), (7, .int .i64 x.atom.bound), (8, .bool x.atom.strict)] w1 := ⟨_, rfl⟩
  change Code.wp _ _ _ _ (setAt (w.heap.size) [(0, .int .i64 x.atom.kind), (1, .string x.atom.a.name), (2, .slice b2 x.atom.a.kids.length e2), (3, .string x.atom.b.name), (4, .slice b4 x.atom.b.kids.length e4), (5, .slice b5 x.atom.nums.length e5), (6, .slice b6 x.atom.times.length e6), (7, .int .i64 x.atom.bound), (8, .bool x.atom.strict)] w1)
  rw [← hwx] at hoA hyA fyA foA hLA ⊢
  have hsA := hLA.size
  clear hwx hy1 ho1 fy1 fo1
  go_wp2_with fail
  have hres := cells_sets (b := w.heap.size + 1) [(0, .int .i64 x.atom.kind), (1, .string x.atom.a.name), (2, .slice b2 x.atom.a.kids.length e2), (3, .string x.atom.b.name), (4, .slice b4 x.atom.b.kids.length e4), (5, .slice b5 x.atom.nums.length e5), (6, .slice b6 x.atom.times.length e6), (7, .int .i64 x.atom.bound), (8, .bool x.atom.strict), (9, .bool x.no)] hyA (by simp)
  have hL := Loc.sets (b := w.heap.size + 1) (by omega) (by omega) [(0, .int .i64 x.atom.kind), (1, .string x.atom.a.name), (2, .slice b2 x.atom.a.kids.length e2), (3, .string x.atom.b.name), (4, .slice b4 x.atom.b.kids.length e4), (5, .slice b5 x.atom.nums.length e5), (6, .slice b6 x.atom.times.length e6), (7, .int .i64 x.atom.bound), (8, .bool x.atom.strict), (9, .bool x.no)] hLA
  simp only [setAt, updAll, List.set_cons_zero, List.set_cons_succ] at hres hL
  have hr1 := hr1.same _ (hL.same (w0 := w) hf1)
  have hfin := hF1.same (hL.same (w0 := w) hF1)
  refine bodyPost_ret (v := .agg #[.int .i64 x.atom.kind, .string x.atom.a.name, .slice b2 x.atom.a.kids.length e2, .string x.atom.b.name, .slice b4 x.atom.b.kids.length e4, .slice b5 x.atom.nums.length e5, .slice b6 x.atom.times.length e6, .int .i64 x.atom.bound, .bool x.atom.strict, .bool x.no]) (by simp [results, Try.results155, go_sem, hres]) rfl ⟨[.int .i64 x.atom.kind, .string x.atom.a.name, .slice b2 x.atom.a.kids.length e2, .string x.atom.b.name, .slice b4 x.atom.b.kids.length e4, .slice b5 x.atom.nums.length e5, .slice b6 x.atom.times.length e6, .int .i64 x.atom.bound, .bool x.atom.strict, .bool x.no], g1 ++ [], rfl, ?_, ?_, hB1.trans (hL.toBelow (by omega) (Nat.le_refl _))⟩
  · unfold Lt.cd
    exact (hr1.app rd_bool_mk)
  · have hx := hfin.mono (lo' := w.heap.size) (by omega)
    simpa [List.append_assoc] using hx
theorem l16OwnForm_n (n : Nat) : ∀ (x : Fm) (vs : List Value) (fp : List Nat) (w : World), ndV x.cd ≤ n → wtV x.cd ≤ 1048576 → RdVs w x.cd vs fp → Calls Try.prog 80 #[.agg vs.toArray] w (ToOutV x.cd w) := by
  induction n with
  | zero => intro x vs fp w hn; have h : 0 < ndV x.cd := by rw [Fm.cd_eq]; simp [ndV, ndC]; try omega
            omega
  | succ n ih =>
    intro x vs fp w hn hbig hv
    have HK : Hid (∀ k ∈ x.kids, ndV k.cd ≤ n) := fun k hk => by have := Fm.kid_nd hk; omega
    have IH := Lib.hid ih
    clear ih
    obtain ⟨a3, c3, f3, a5, c5, f5, a6, c6, f6, a7, c7, f7, a11, c11, f11, rfl, -, m0, m1, m2, m3, m4, m5, m6, m7, m8, m9⟩ := Fm.open hv
    have hw : wtV x.cd = wtV x.lit.cd + (x.kids.length + wtR (x.kids.map Fm.cd)) := by rw [Fm.cd_eq]; simp only [wtV_append, wtV_int, wtV_bool, wtV_str, wtV_sl]; try omega
    rw [hw] at hbig
    clear hw hv
    go_enter Try.func80, Try.ntmps80
    go_wp2_with fail
    refine (l16OwnLit_x x.lit _ _ _ (by omega) (by exact (Lt.close m1 m2 m3 m4 m5 m6 m7 m8).below (((Below.refl _ _).alloc (Nat.le_refl _) _).alloc (by simp) _))).mono ?_
    rintro e w1 ⟨kv1, g1, rfl, hr1, hf1, hb1⟩
    have hbx : Below (w.heap.size + 1 + 1) _ w1 := below_size hb1 (by simp)
    obtain ⟨ho1, hy1, hz1, hB1⟩ := box2 hbx
    have fo1 : ∀ j, w1.frozen? ⟨w.heap.size, j, none⟩ = false := fun j => (box2_free hbx j).1
    have fy1 : ∀ j, w1.frozen? ⟨w.heap.size + 1, j, none⟩ = false := fun j => (box2_free hbx j).2
    clear hbx
    have hf1 : Fresh (w.heap.size + 1 + 1) w1 g1 := hf1.mono (by simp)
    have hF1 := hf1
    obtain ⟨b3, e3, gg1_2, b5, e5, gg1_4, b6, e6, gg1_5, b7, e7, gg1_6, rfl, -, _, _, _, _, _, _, _, _⟩ := Lt.open hr1
    clear hb1
    go_wp2_with fail
    have hoA := cells_sets (b := w.heap.size) [(1, .int .i64 x.lit.atom.kind), (2, .string x.lit.atom.a.name), (3, .slice b3 x.lit.atom.a.kids.length e3), (4, .string x.lit.atom.b.name), (5, .slice b5 x.lit.atom.b.kids.length e5), (6, .slice b6 x.lit.atom.nums.length e6), (7, .slice b7 x.lit.atom.times.length e7), (8, .int .i64 x.lit.atom.bound), (9, .bool x.lit.atom.strict), (10, .bool x.lit.no)] ho1 (by simp)
    have hyA := cells_sets_other (b' := w.heap.size) (by omega) [(1, .int .i64 x.lit.atom.kind), (2, .string x.lit.atom.a.name), (3, .slice b3 x.lit.atom.a.kids.length e3), (4, .string x.lit.atom.b.name), (5, .slice b5 x.lit.atom.b.kids.length e5), (6, .slice b6 x.lit.atom.nums.length e6), (7, .slice b7 x.lit.atom.times.length e7), (8, .int .i64 x.lit.atom.bound), (9, .bool x.lit.atom.strict), (10, .bool x.lit.no)] hy1
    have fyA := free_sets (b' := w.heap.size) [(1, .int .i64 x.lit.atom.kind), (2, .string x.lit.atom.a.name), (3, .slice b3 x.lit.atom.a.kids.length e3), (4, .string x.lit.atom.b.name), (5, .slice b5 x.lit.atom.b.kids.length e5), (6, .slice b6 x.lit.atom.nums.length e6), (7, .slice b7 x.lit.atom.times.length e7), (8, .int .i64 x.lit.atom.bound), (9, .bool x.lit.atom.strict), (10, .bool x.lit.no)] fy1
    have foA := free_sets (b' := w.heap.size) [(1, .int .i64 x.lit.atom.kind), (2, .string x.lit.atom.a.name), (3, .slice b3 x.lit.atom.a.kids.length e3), (4, .string x.lit.atom.b.name), (5, .slice b5 x.lit.atom.b.kids.length e5), (6, .slice b6 x.lit.atom.nums.length e6), (7, .slice b7 x.lit.atom.times.length e7), (8, .int .i64 x.lit.atom.bound), (9, .bool x.lit.atom.strict), (10, .bool x.lit.no)] fo1
    have hLA := Loc.sets (b := w.heap.size) (lo := w.heap.size) (hi := w.heap.size + 1 + 1) (by omega) (by omega) [(1, .int .i64 x.lit.atom.kind), (2, .string x.lit.atom.a.name), (3, .slice b3 x.lit.atom.a.kids.length e3), (4, .string x.lit.atom.b.name), (5, .slice b5 x.lit.atom.b.kids.length e5), (6, .slice b6 x.lit.atom.nums.length e6), (7, .slice b7 x.lit.atom.times.length e7), (8, .int .i64 x.lit.atom.bound), (9, .bool x.lit.atom.strict), (10, .bool x.lit.no)] (Loc.refl _ _ w1)
    have hBA := hB1.trans (hLA.toBelow (B := w.heap.size) (by omega) (Nat.le_refl _))
    have hsA := hLA.size
    try simp only [setAt, updAll, List.set_cons_zero, List.set_cons_succ] at hoA hyA fyA foA hLA hBA hsA
    clear hy1 ho1 fy1 fo1
    refine (l16OwnListForm_n n IH.out x.kids _ _ _ HK.out (by omega) (by exact m9.below hBA)).mono ?_
    rintro e w2 ⟨kv2, g2, rfl, hr2, hf2, hb2⟩
    have hzA : w.heap.size + 1 + 1 ≤ _ := Nat.le_trans hz1 hsA
    have hy2 := cells_later hyA (by omega) hb2
    have ho2 := cells_later hoA (by omega) hb2
    have fy2 := free_later fyA (by omega) hb2
    have fo2 := free_later foA (by omega) hb2
    have hL2 : Loc w.heap.size (w.heap.size + 1 + 1) w1 w2 := hLA.below hb2
    have hz2 := Nat.le_trans hz1 hL2.size
    have hB2 := hB1.trans (hL2.toBelow (by omega) (Nat.le_refl _))
    have hf2' : Fresh w1.heap.size w2 g2 := hf2.mono hsA
    have hf2 : Fresh (w.heap.size + 1 + 1) w2 g2 := hf2'.mono hz1
    have hF2 := Fresh.app2 (hF1.same (hL2.same (w0 := w) hF1)) hF1.lt hf2' (by omega)
    have hr1 := hr1.same _ (hL2.same (w0 := w) hf1)
    have hf1 := hf1.same (hL2.same (w0 := w) hf1)
    clear hoA hyA fyA foA hLA hBA hsA hzA
    obtain ⟨b11, e11, rfl, _⟩ := rd_sl_inv hr2
    clear hb2
    go_upto_region 3 with (fail)
    have hoA := cells_sets (b := w.heap.size) [(11, .slice b11 x.kids.length e11)] ho2 (by simp)
    have hyA := cells_sets_other (b' := w.heap.size) (by omega) [(11, .slice b11 x.kids.length e11)] hy2
    have fyA := free_sets (b' := w.heap.size) [(11, .slice b11 x.kids.length e11)] fy2
    have foA := free_sets (b' := w.heap.size) [(11, .slice b11 x.kids.length e11)] fo2
    have hLA := Loc.sets (b := w.heap.size) (lo := w.heap.size) (hi := w.heap.size + 1 + 1) (by omega) (by omega) [(11, .slice b11 x.kids.length e11)] (Loc.refl _ _ w2)
    simp only [updAll, List.set_cons_zero, List.set_cons_succ] at hoA
    obtain ⟨wx, hwx⟩ : ∃ wx, wx = setAt (w.heap.size) [(11, .slice b11 x.kids.length e11)] w2 := ⟨_, rfl⟩
    change Code.wp _ _ _ _ (setAt (w.heap.size) [(11, .slice b11 x.kids.length e11)] w2)
    rw [← hwx] at hoA hyA fyA foA hLA ⊢
    have hsA := hLA.size
    clear hwx hy2 ho2 fy2 fo2
    go_wp2_with fail
    have hres := cells_sets (b := w.heap.size + 1) [(0, .int .i64 x.kind), (1, .int .i64 x.lit.atom.kind), (2, .string x.lit.atom.a.name), (3, .slice b3 x.lit.atom.a.kids.length e3), (4, .string x.lit.atom.b.name), (5, .slice b5 x.lit.atom.b.kids.length e5), (6, .slice b6 x.lit.atom.nums.length e6), (7, .slice b7 x.lit.atom.times.length e7), (8, .int .i64 x.lit.atom.bound), (9, .bool x.lit.atom.strict), (10, .bool x.lit.no), (11, .slice b11 x.kids.length e11)] hyA (by simp)
    have hL := Loc.sets (b := w.heap.size + 1) (by omega) (by omega) [(0, .int .i64 x.kind), (1, .int .i64 x.lit.atom.kind), (2, .string x.lit.atom.a.name), (3, .slice b3 x.lit.atom.a.kids.length e3), (4, .string x.lit.atom.b.name), (5, .slice b5 x.lit.atom.b.kids.length e5), (6, .slice b6 x.lit.atom.nums.length e6), (7, .slice b7 x.lit.atom.times.length e7), (8, .int .i64 x.lit.atom.bound), (9, .bool x.lit.atom.strict), (10, .bool x.lit.no), (11, .slice b11 x.kids.length e11)] hLA
    simp only [setAt, updAll, List.set_cons_zero, List.set_cons_succ] at hres hL
    have hr1 := hr1.same _ (hL.same (w0 := w) hf1)
    have hr2 := hr2.same _ (hL.same (w0 := w) hf2)
    have hfin := hF2.same (hL.same (w0 := w) hF2)
    refine bodyPost_ret (v := .agg #[.int .i64 x.kind, .int .i64 x.lit.atom.kind, .string x.lit.atom.a.name, .slice b3 x.lit.atom.a.kids.length e3, .string x.lit.atom.b.name, .slice b5 x.lit.atom.b.kids.length e5, .slice b6 x.lit.atom.nums.length e6, .slice b7 x.lit.atom.times.length e7, .int .i64 x.lit.atom.bound, .bool x.lit.atom.strict, .bool x.lit.no, .slice b11 x.kids.length e11]) (by simp [results, Try.results80, go_sem, hres]) rfl ⟨[.int .i64 x.kind, .int .i64 x.lit.atom.kind, .string x.lit.atom.a.name, .slice b3 x.lit.atom.a.kids.length e3, .string x.lit.atom.b.name, .slice b5 x.lit.atom.b.kids.length e5, .slice b6 x.lit.atom.nums.length e6, .slice b7 x.lit.atom.times.length e7, .int .i64 x.lit.atom.bound, .bool x.lit.atom.strict, .bool x.lit.no, .slice b11 x.kids.length e11], [] ++ (g1 ++ g2), rfl, ?_, ?_, hB2.trans (hL.toBelow (by omega) (Nat.le_refl _))⟩
    · rw [Fm.cd_eq]
      exact ((rd_int_mk m0).app (hr1.app (RdVs.single hr2)))
    · have hx := hfin.mono (lo' := w.heap.size) (by omega)
      simpa [List.append_assoc] using hx
theorem l16OwnListForm_x (xs : List Fm) (v : Value) (fp0 : List Nat) (w : World) (hbig : xs.length + wtR (xs.map Fm.cd) ≤ 1048576) (hv : Rd w (.sl (xs.map Fm.cd)) v fp0) :
    Calls Try.prog 79 #[v] w (ToOut (.sl (xs.map Fm.cd)) w) :=
  l16OwnListForm_n (ndR (xs.map Fm.cd)) (l16OwnForm_n _) xs v fp0 w (fun x hx => Nat.le_of_lt (ndR_mem (List.mem_map_of_mem hx))) hbig hv
theorem l16OwnForm_x (x : Fm) (vs : List Value) (fp : List Nat) (w : World) (hbig : wtV x.cd ≤ 1048576) (hv : RdVs w x.cd vs fp) :
    Calls Try.prog 80 #[.agg vs.toArray] w (ToOutV x.cd w) := l16OwnForm_n _ x vs fp w (Nat.le_refl _) hbig hv
theorem formOwn_n (n : Nat) : ∀ (x : Fm) (vs : List Value) (fp : List Nat) (w : World), ndV x.cd ≤ n → wtV x.cd ≤ 1048576 → RdVs w x.cd vs fp → Calls Try.prog 82 #[.agg vs.toArray] w (ToOutV x.cd w) := by
  induction n with
  | zero => intro x vs fp w hn; have h : 0 < ndV x.cd := by rw [Fm.cd_eq]; simp [ndV, ndC]; try omega
            omega
  | succ n ih =>
    intro x vs fp w hn hbig hv
    have HK : Hid (∀ k ∈ x.kids, ndV k.cd ≤ n) := fun k hk => by have := Fm.kid_nd hk; omega
    have IH := Lib.hid ih
    clear ih
    obtain ⟨a3, c3, f3, a5, c5, f5, a6, c6, f6, a7, c7, f7, a11, c11, f11, rfl, -, m0, m1, m2, m3, m4, m5, m6, m7, m8, m9⟩ := Fm.open hv
    have hw : wtV x.cd = wtV x.lit.cd + (x.kids.length + wtR (x.kids.map Fm.cd)) := by rw [Fm.cd_eq]; simp only [wtV_append, wtV_int, wtV_bool, wtV_str, wtV_sl]; try omega
    rw [hw] at hbig
    clear hw hv
    go_enter Try.func82, Try.ntmps82
    go_wp2_with fail
    refine (atomOwn_any x.lit.atom _ _ _ (Lt.small_of (x := x.lit) (by omega)) (Lt.times_ok (x := x.lit) (by omega)) (by exact (Atm.close m1 m2 m3 m4 m5 m6 m7 m8).below (((Below.refl _ _).alloc (Nat.le_refl _) _).alloc (by simp) _))).mono ?_
    rintro e w1 ⟨kv1, g1, rfl, hr1, hf1, hb1⟩
    have hbx : Below (w.heap.size + 1 + 1) _ w1 := below_size hb1 (by simp)
    obtain ⟨ho1, hy1, hz1, hB1⟩ := box2 hbx
    have fo1 : ∀ j, w1.frozen? ⟨w.heap.size, j, none⟩ = false := fun j => (box2_free hbx j).1
    have fy1 : ∀ j, w1.frozen? ⟨w.heap.size + 1, j, none⟩ = false := fun j => (box2_free hbx j).2
    clear hbx
    have hf1 : Fresh (w.heap.size + 1 + 1) w1 g1 := hf1.mono (by simp)
    have hF1 := hf1
    obtain ⟨b3, e3, gg1_2, b5, e5, gg1_4, b6, e6, gg1_5, b7, e7, gg1_6, rfl, -, _, _, _, _, _, _, _, _⟩ := Atm.open hr1
    clear hb1
    go_wp2_with fail
    have hoA := cells_sets (b := w.heap.size) [(1, .int .i64 x.lit.atom.kind), (2, .string x.lit.atom.a.name), (3, .slice b3 x.lit.atom.a.kids.length e3), (4, .string x.lit.atom.b.name), (5, .slice b5 x.lit.atom.b.kids.length e5), (6, .slice b6 x.lit.atom.nums.length e6), (7, .slice b7 x.lit.atom.times.length e7), (8, .int .i64 x.lit.atom.bound), (9, .bool x.lit.atom.strict)] ho1 (by simp)
    have hyA := cells_sets_other (b' := w.heap.size) (by omega) [(1, .int .i64 x.lit.atom.kind), (2, .string x.lit.atom.a.name), (3, .slice b3 x.lit.atom.a.kids.length e3), (4, .string x.lit.atom.b.name), (5, .slice b5 x.lit.atom.b.kids.length e5), (6, .slice b6 x.lit.atom.nums.length e6), (7, .slice b7 x.lit.atom.times.length e7), (8, .int .i64 x.lit.atom.bound), (9, .bool x.lit.atom.strict)] hy1
    have fyA := free_sets (b' := w.heap.size) [(1, .int .i64 x.lit.atom.kind), (2, .string x.lit.atom.a.name), (3, .slice b3 x.lit.atom.a.kids.length e3), (4, .string x.lit.atom.b.name), (5, .slice b5 x.lit.atom.b.kids.length e5), (6, .slice b6 x.lit.atom.nums.length e6), (7, .slice b7 x.lit.atom.times.length e7), (8, .int .i64 x.lit.atom.bound), (9, .bool x.lit.atom.strict)] fy1
    have foA := free_sets (b' := w.heap.size) [(1, .int .i64 x.lit.atom.kind), (2, .string x.lit.atom.a.name), (3, .slice b3 x.lit.atom.a.kids.length e3), (4, .string x.lit.atom.b.name), (5, .slice b5 x.lit.atom.b.kids.length e5), (6, .slice b6 x.lit.atom.nums.length e6), (7, .slice b7 x.lit.atom.times.length e7), (8, .int .i64 x.lit.atom.bound), (9, .bool x.lit.atom.strict)] fo1
    have hLA := Loc.sets (b := w.heap.size) (lo := w.heap.size) (hi := w.heap.size + 1 + 1) (by omega) (by omega) [(1, .int .i64 x.lit.atom.kind), (2, .string x.lit.atom.a.name), (3, .slice b3 x.lit.atom.a.kids.length e3), (4, .string x.lit.atom.b.name), (5, .slice b5 x.lit.atom.b.kids.length e5), (6, .slice b6 x.lit.atom.nums.length e6), (7, .slice b7 x.lit.atom.times.length e7), (8, .int .i64 x.lit.atom.bound), (9, .bool x.lit.atom.strict)] (Loc.refl _ _ w1)
    have hBA := hB1.trans (hLA.toBelow (B := w.heap.size) (by omega) (Nat.le_refl _))
    have hsA := hLA.size
    try simp only [setAt, updAll, List.set_cons_zero, List.set_cons_succ] at hoA hyA fyA foA hLA hBA hsA
    clear hy1 ho1 fy1 fo1
    refine (ownForms_n n IH.out x.kids _ _ _ HK.out (by omega) (by exact m9.below hBA)).mono ?_
    rintro e w2 ⟨kv2, g2, rfl, hr2, hf2, hb2⟩
    have hzA : w.heap.size + 1 + 1 ≤ _ := Nat.le_trans hz1 hsA
    have hy2 := cells_later hyA (by omega) hb2
    have ho2 := cells_later hoA (by omega) hb2
    have fy2 := free_later fyA (by omega) hb2
    have fo2 := free_later foA (by omega) hb2
    have hL2 : Loc w.heap.size (w.heap.size + 1 + 1) w1 w2 := hLA.below hb2
    have hz2 := Nat.le_trans hz1 hL2.size
    have hB2 := hB1.trans (hL2.toBelow (by omega) (Nat.le_refl _))
    have hf2' : Fresh w1.heap.size w2 g2 := hf2.mono hsA
    have hf2 : Fresh (w.heap.size + 1 + 1) w2 g2 := hf2'.mono hz1
    have hF2 := Fresh.app2 (hF1.same (hL2.same (w0 := w) hF1)) hF1.lt hf2' (by omega)
    have hr1 := hr1.same _ (hL2.same (w0 := w) hf1)
    have hf1 := hf1.same (hL2.same (w0 := w) hf1)
    clear hoA hyA fyA foA hLA hBA hsA hzA
    obtain ⟨b11, e11, rfl, _⟩ := rd_sl_inv hr2
    clear hb2
    go_upto_region 3 with (fail)
    have hoA := cells_sets (b := w.heap.size) [(11, .slice b11 x.kids.length e11)] ho2 (by simp)
    have hyA := cells_sets_other (b' := w.heap.size) (by omega) [(11, .slice b11 x.kids.length e11)] hy2
    have fyA := free_sets (b' := w.heap.size) [(11, .slice b11 x.kids.length e11)] fy2
    have foA := free_sets (b' := w.heap.size) [(11, .slice b11 x.kids.length e11)] fo2
    have hLA := Loc.sets (b := w.heap.size) (lo := w.heap.size) (hi := w.heap.size + 1 + 1) (by omega) (by omega) [(11, .slice b11 x.kids.length e11)] (Loc.refl _ _ w2)
    simp only [updAll, List.set_cons_zero, List.set_cons_succ] at hoA
    obtain ⟨wx, hwx⟩ : ∃ wx, wx = setAt (w.heap.size) [(11, .slice b11 x.kids.length e11)] w2 := ⟨_, rfl⟩
    change Code.wp _ _ _ _ (setAt (w.heap.size) [(11, .slice b11 x.kids.length e11)] w2)
    rw [← hwx] at hoA hyA fyA foA hLA ⊢
    have hsA := hLA.size
    clear hwx hy2 ho2 fy2 fo2
    go_wp2_with fail
    have hres := cells_sets (b := w.heap.size + 1) [(0, .int .i64 x.kind), (1, .int .i64 x.lit.atom.kind), (2, .string x.lit.atom.a.name), (3, .slice b3 x.lit.atom.a.kids.length e3), (4, .string x.lit.atom.b.name), (5, .slice b5 x.lit.atom.b.kids.length e5), (6, .slice b6 x.lit.atom.nums.length e6), (7, .slice b7 x.lit.atom.times.length e7), (8, .int .i64 x.lit.atom.bound), (9, .bool x.lit.atom.strict), (10, .bool x.lit.no), (11, .slice b11 x.kids.length e11)] hyA (by simp)
    have hL := Loc.sets (b := w.heap.size + 1) (by omega) (by omega) [(0, .int .i64 x.kind), (1, .int .i64 x.lit.atom.kind), (2, .string x.lit.atom.a.name), (3, .slice b3 x.lit.atom.a.kids.length e3), (4, .string x.lit.atom.b.name), (5, .slice b5 x.lit.atom.b.kids.length e5), (6, .slice b6 x.lit.atom.nums.length e6), (7, .slice b7 x.lit.atom.times.length e7), (8, .int .i64 x.lit.atom.bound), (9, .bool x.lit.atom.strict), (10, .bool x.lit.no), (11, .slice b11 x.kids.length e11)] hLA
    simp only [setAt, updAll, List.set_cons_zero, List.set_cons_succ] at hres hL
    have hr1 := hr1.same _ (hL.same (w0 := w) hf1)
    have hr2 := hr2.same _ (hL.same (w0 := w) hf2)
    have hfin := hF2.same (hL.same (w0 := w) hF2)
    refine bodyPost_ret (v := .agg #[.int .i64 x.kind, .int .i64 x.lit.atom.kind, .string x.lit.atom.a.name, .slice b3 x.lit.atom.a.kids.length e3, .string x.lit.atom.b.name, .slice b5 x.lit.atom.b.kids.length e5, .slice b6 x.lit.atom.nums.length e6, .slice b7 x.lit.atom.times.length e7, .int .i64 x.lit.atom.bound, .bool x.lit.atom.strict, .bool x.lit.no, .slice b11 x.kids.length e11]) (by simp [results, Try.results82, go_sem, hres]) rfl ⟨[.int .i64 x.kind, .int .i64 x.lit.atom.kind, .string x.lit.atom.a.name, .slice b3 x.lit.atom.a.kids.length e3, .string x.lit.atom.b.name, .slice b5 x.lit.atom.b.kids.length e5, .slice b6 x.lit.atom.nums.length e6, .slice b7 x.lit.atom.times.length e7, .int .i64 x.lit.atom.bound, .bool x.lit.atom.strict, .bool x.lit.no, .slice b11 x.kids.length e11], [] ++ (g1 ++ g2), rfl, ?_, ?_, hB2.trans (hL.toBelow (by omega) (Nat.le_refl _))⟩
    · rw [Fm.cd_eq]
      exact ((rd_int_mk m0).app ((Lt.of_atom hr1).app (RdVs.single hr2)))
    · have hx := hfin.mono (lo' := w.heap.size) (by omega)
      simpa [List.append_assoc] using hx
theorem ownForms_x (xs : List Fm) (v : Value) (fp0 : List Nat) (w : World) (hbig : xs.length + wtR (xs.map Fm.cd) ≤ 1048576) (hv : Rd w (.sl (xs.map Fm.cd)) v fp0) :
    Calls Try.prog 156 #[v] w (ToOut (.sl (xs.map Fm.cd)) w) :=
  ownForms_n (ndR (xs.map Fm.cd)) (formOwn_n _) xs v fp0 w (fun x hx => Nat.le_of_lt (ndR_mem (List.mem_map_of_mem hx))) hbig hv
theorem formOwn_x (x : Fm) (vs : List Value) (fp : List Nat) (w : World) (hbig : wtV x.cd ≤ 1048576) (hv : RdVs w x.cd vs fp) :
    Calls Try.prog 82 #[.agg vs.toArray] w (ToOutV x.cd w) := formOwn_n _ x vs fp w (Nat.le_refl _) hbig hv
end Go.Proofs.Ytaogaddgfllkpaa
