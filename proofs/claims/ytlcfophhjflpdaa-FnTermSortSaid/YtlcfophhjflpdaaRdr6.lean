/- Lists of terms that are drawn: l4Terms, DrawTermParts. -/
import Derived.Test.YtlcfophhjflpdaaRdr5
namespace Go.Proofs.Ytlcfophhjflpdaa
open Go Go.RowKit
set_option linter.unusedVariables false
set_option linter.unusedSimpArgs false

set_option maxRecDepth 100000 in
set_option maxHeartbeats 4000000 in
theorem l4Terms_any (n : Nat) (s : Sg) (vs : List Value) (sf : List Nat) (rb p : Nat) (w : World) (hn : n ≤ 10) (hp : p + 200 ≤ 1000000000) (hfew : s.few) (hrd : RdVs w s.cd vs sf) (hnr : rb ∉ sf) (hr : Rdr w rb p) :
    Calls Try.prog 61 #[.pointer (some ⟨rb, 0, none⟩), .agg vs.toArray, .int .i64 n] w fun e w' => (∃ (ts : List Tm) (rv : Value) (fp : List Nat), Tm.sizes ts ≤ 15 * n ∧ ts.length = n ∧ e = .returned rv ∧ Own w' w.heap.size 38 2 rv (ts.map Tm.cd) fp ∧ Fresh w.heap.size w' fp) ∧ Rdr w' rb (p + n * 17) ∧ Only [rb] w w' := by
  obtain ⟨a0, c0, f0, rfl, rfl, m0⟩ := Sg.open hrd
  have hlt := hr.lt
  go_enter Try.func61, Try.ntmps61
  go_wp2_with fail
  go_loopw [7, 8] (fun ov i wr => ∃ (k : Nat) (ts : List Tm) (fp : List Nat), k ≤ n ∧ i = .int .i64 k ∧ ts.length = k ∧ Tm.sizes ts ≤ 15 * k ∧ Own wr (w.heap.size + 1) 38 2 ov (ts.map Tm.cd) fp ∧ Fresh (w.heap.size + 1) wr fp ∧ Rdr wr rb (p + k * 17) ∧
    Only [rb] (w.alloc (.cells #[.slice a0 s.syms.length c0] 72)) wr) (fun _ i _ => n - (intOf i).toNat)
  case atStart => exact ⟨0, [], [], Nat.zero_le _, rfl, rfl, by simp [Tm.sizes], by have h := Own.empty (w.alloc (.cells #[.slice a0 s.syms.length c0] 72)) (w.heap.size + 1) 38 2 (by simp); simp only [World.size_alloc] at h; exact h, Fresh.nil _ _, by simpa using (hr.alloc _).alloc _, (Only.refl _ _).alloc _⟩
  case round =>
    obtain ⟨k, ts, fp, hkn, rfl, hkl, hks, hown, hfr, hr0, hN⟩ := hrel
    have hBA := below_alloc w (.cells #[.slice a0 s.syms.length c0] 72)
    have x0 : wr.cell? ⟨w.heap.size, 0, none⟩ = some (.slice a0 s.syms.length c0) := hN.cellk (cells_new' w _ _ 0 _ rfl) (by omega)
    have hrd0 := (hrd.below hBA).only hN hnr
    have hzr := hN.size
    rw [World.size_alloc] at hzr
    by_cases hlt : k < n
    · have hlW := hr0.lt
      go_wp2_with fail
      have hN0 : Only [rb] wr wr.drew := Only.below (below_drew wr)
      go_region_held3 (fun U => U.cell? ⟨w.heap.size, 0, none⟩ = some (.slice a0 s.syms.length c0))
        (((repeat (first | with_reducible assumption | with_reducible exact x0 | ((with_reducible refine hN0.cellk x0 ?_); (focus omega)) | ((with_reducible refine hN1.cellk x0 ?_); (focus omega)) | ((with_reducible refine hN2.cellk x0 ?_); (focus omega)) | ((with_reducible refine hN3.cellk x0 ?_); (focus omega)) | with_reducible refine cell_drew ?_ | with_reducible refine cell_ak ?_ | ((with_reducible refine ho1.cellk ?_ ?_); rotate_left; (focus omega)) | ((with_reducible refine ho2.cellk ?_ ?_); rotate_left; (focus omega)) | ((with_reducible refine ho3.cellk ?_ ?_); rotate_left; (focus omega)) | ((with_reducible refine (World.cell?_setCell_other _ _ _ _ ?_).trans ?_); (focus (intro e; simp only [Addr.mk.injEq] at e; omega))))); done))
        (first
      | (have _t := @hown2; refine step_app slTerm rfl _ _ rfl (w.heap.size + 1) _ _ fp rfl (by exact hown2) ⟨w3.heap.size, 0, none⟩ 1 1 [t.cd] [.string t.name, .slice ka t.kids.length kc] ff rfl rfl (by simpa using Tm.rdvs hnm hrt') (by simp [Tm.cd_len]) (by exact cells_new _ _ _) (by exact hown.away (Nat.le_refl _) hft') (by rw [List.length_map]; omega) (by rw [List.length_map]; omega) (by simp; omega) ?_; intro v' w4 hown4 hg hv' hs4; have x4 := grown_cell hg (cell_ak (o := .cells #[.string t.name, .slice ka t.kids.length kc] 38) (hN3.cellk x0 (by omega))) (hown.row_ne (by omega)))
      | (go_at_call 63; (refine (pick_any rb (p + k * 17) 2 _ (by omega) (by omega) (by omega) ?_).mono ?_); (first | exact hr0 | exact hr0.alloc _ | exact (hr0.alloc _).alloc _); rintro e w1 ⟨⟨m1, hm1, rfl⟩, hr1, ho1⟩; have hN1 : Only [rb] wr w1 := (by first | exact hN0.trans ho1 | exact (hN0.alloc _).trans ho1 | exact ((hN0.alloc _).alloc _).trans ho1); have hl1 := hr1.lt; have hsz1 := hN1.size)
      | (go_at_call 62; (refine (num_l [2, 3, 1] [.int .i64 2, .int .i64 3, .int .i64 1] rfl rb (p + k * 17 + 1) _ _ (by omega) (by simp) (by simp) ?_ ?_).mono ?_); (focus ((repeat (first | assumption | with_reducible refine Lst.drew ?_ | ((with_reducible refine Lst.new ?_ _ _); first | exact hlW | exact hr1.lt | omega | (simp; omega)) | ((with_reducible refine Lst.new1 ?_ _ _ _); first | exact hlW | exact hr1.lt | omega | (simp; omega)) | with_reducible refine Lst.alloc ?_ _ | with_reducible refine Lst.only ?_ ho1)); done)); (first | exact hr1 | exact hr1.alloc _ | exact (hr1.alloc _).alloc _); rintro e w2 ⟨⟨d2, hd2, rfl⟩, hr2, ho2⟩; have hN2 : Only [rb] wr w2 := (by first | exact hN1.trans ho2 | exact (hN1.alloc _).trans ho2 | exact ((hN1.alloc _).alloc _).trans ho2); have hl2 := hr2.lt; have hsz2 := hN2.size; have hd : 1 ≤ d2 ∧ d2 ≤ 4 := (by simp at hd2; omega); have hsf := hrd0.only hN2 hnr)
      | (go_at_call 92; (refine (l4Any_any 4 s _ sf _ _ rb (p + k * 17 + 1 + 1) _ hd.1 (by omega) (by omega) (by simp only [pcap]; omega) hfew (by exact hsf) hnr ?_).mono ?_); (first | exact hr2 | exact hr2.alloc _ | exact (hr2.alloc _).alloc _); rintro e w3 ⟨⟨t, kv, fo, hsz, rfl, hnm, hownt, hfo⟩, hr3, ho3⟩; have hN3 : Only [rb] wr w3 := (by first | exact hN2.trans ho3 | exact (hN2.alloc _).trans ho3 | exact ((hN2.alloc _).alloc _).trans ho3); have hl3 := hr3.lt; have hsz3 := hN3.size; have hsz' : t.size ≤ 15 := hsz; obtain ⟨ff, hrt, hft, _⟩ := hownt.fresh hfo; obtain ⟨ka, kc, rfl, hk1, hk2⟩ := tms_form hrt; have hba := below_alloc w3 (.cells #[.string t.name, .slice ka t.kids.length kc] 38); have hown2 := (hown.only hN3 (by omega) (hfr.notin (by omega))).below hba; have hrt' := hrt.below hba; have hft' := hft.mono hsz2; have hlz := hl3))
      all_goals
        have hba := below_alloc w3 (.cells #[.string t.name, .slice ka t.kids.length kc] 38)
        have hr3' : Rdr w3 rb (p + k * 17 + 17) := hr3
        have hfr4 := ((Fresh.app (hfr.only hN3 (by omega)) hfr.lt (by omega) hft').below hba).same hs4
        have hrow : ∀ q, Value.ownBlock _ = some q → w.heap.size + 1 ≤ q := fun q hq => (hown.block hq).1
        have hr4 := (hr3'.alloc (.cells #[.string t.name, .slice ka t.kids.length kc] 38)).grown hg (fun q hq => by have := hrow q hq; omega)
        have hN4 := ((hN.trans hN3).alloc (.cells #[.string t.name, .slice ka t.kids.length kc] 38)).grown hg (fun q hq => by have := hrow q hq; simp; omega)
        go_wp2_with fail
        go_roundw
        case rel => exact ⟨k + 1, ts ++ [t], fp ++ ff, by omega, by go_num, by simp [hkl], by rw [Tm.sizes_append]; simp only [Tm.sizes]; omega, by rw [List.map_append]; simpa using hown4, hfr4, by rw [show p + (k + 1) * 17 = p + k * 17 + 17 from by omega]; exact hr4, hN4⟩
        case measure => simp [intOf]; omega
    · obtain rfl : k = n := by omega
      go_wp2_with fail
      go_ret
      exact ⟨⟨ts, _, fp, hks, hkl, rfl, hown.base (fun q hq => by have := (hown.block hq).1; omega), hfr.mono (by omega)⟩, hr0, (Only.below hBA).trans hN⟩
theorem Tm.zero_rd (w : World) : RdVs w (Tm.mk ⟨#[]⟩ []).cd [.string ⟨#[]⟩, .slice none 0 0] [] := Tm.rdvs (t := .mk ⟨#[]⟩ []) (by decide) (by simp only [Tm.kids, List.map_nil, Rd]; exact ⟨none, 0, rfl, by simp, by simp [maxLen], by simp⟩)
set_option maxRecDepth 100000 in
set_option maxHeartbeats 4000000 in
theorem drawTermParts_any (v : Value) (w : World) (hv : Byts w v) :
    Calls Try.prog 29 #[v] w fun e w' => (∃ (ts : List Tm) (rv : Value) (fp : List Nat), Tm.sizes ts ≤ 200 ∧ e = .returned rv ∧ Rd w' (.sl (ts.map Tm.cd)) rv fp) ∧ Below w.heap.size w w' := by
  go_enter Try.func29, Try.ntmps29
  go_wp2_with fail
  refine (l16Open_any v _ hv).mono ?_
  rintro e u1 ⟨rfl, hu1, hb1⟩
  obtain ⟨rb, hrb⟩ : ∃ rb, rb = w.heap.size := ⟨_, rfl⟩
  rw [← hrb] at hu1
  rw [← hrb]
  have hrw1 : rb ≤ w.heap.size := by omega
  have hrw2 : w.heap.size ≤ rb := by omega
  clear hrb
  have hl1 := hu1.lt
  go_wp2_with fail
  refine (l4Sig_any rb 0 _ (by omega) hu1).mono ?_
  rintro e u2 ⟨⟨s, vs, sf, hfew, rfl, hrd, hsf⟩, hu2, ho2⟩
  obtain ⟨a0, c0, f0, rfl, rfl, m0⟩ := Sg.open hrd
  have hnr : rb ∉ sf := fun h => by have := hsf _ h; omega
  have hB2 : Below w.heap.size w u2 := hb1.trans (ho2.toBelow hb1.size (fun b hb => by simp at hb; omega))
  have hl2 := hu2.lt
  have hba := below_alloc u2 (.cells #[.slice a0 s.syms.length c0] 72)
  have x00 := cells_new' u2 [.slice a0 s.syms.length c0] 72 0 _ rfl
  have hs0 : (u2.alloc (.cells #[.slice a0 s.syms.length c0] 72)).heap.size = u2.heap.size + 1 := by simp
  generalize hW : u2.alloc (.cells #[.slice a0 s.syms.length c0] 72) = W at hba x00 hs0
  have x0 : W.cell? ⟨u2.heap.size, 0, none⟩ = some (.slice a0 s.syms.length c0) := x00
  have hr0 := hu2.below hba
  have hrd0 := hrd.below hba
  have hlW := hr0.lt
  have hB0 : Below w.heap.size w W := hB2.trans (hba.mono hB2.size)
  have hs1 : u2.heap.size + 1 ≤ W.heap.size := by omega
  clear hs0
  go_wp2_with fail
  clear hW
  have hN0 : Only [rb] W W.drew := Only.below (below_drew W)
  go_region_held3 (fun U => U.cell? ⟨u2.heap.size, 0, none⟩ = some (.slice a0 s.syms.length c0))
    (((repeat (first | with_reducible assumption | with_reducible exact x0 | ((with_reducible refine hN0.cellk x0 ?_); (focus omega)) | ((with_reducible refine hN1.cellk x0 ?_); (focus omega)) | ((with_reducible refine hN2.cellk x0 ?_); (focus omega)) | with_reducible refine cell_drew ?_ | with_reducible refine cell_ak ?_ | ((with_reducible refine ho1.cellk ?_ ?_); rotate_left; (focus omega)) | ((with_reducible refine ho2.cellk ?_ ?_); rotate_left; (focus omega)) | ((with_reducible refine (World.cell?_setCell_other _ _ _ _ ?_).trans ?_); (focus (intro e; simp only [Addr.mk.injEq] at e; omega))))); done))
    (first
      | (go_at_call 62; (refine (num_l [1, 2, 3, 0] [.int .i64 1, .int .i64 2, .int .i64 3, .int .i64 0] rfl rb (0 + 1) _ _ (by omega) (by simp) (by simp) ?_ ?_).mono ?_); (focus ((repeat (first | assumption | with_reducible refine Lst.drew ?_ | ((with_reducible refine Lst.new ?_ _ _); first | exact hlW | omega | (simp; omega)) | ((with_reducible refine Lst.new1 ?_ _ _ _); first | exact hlW | omega | (simp; omega)) | with_reducible refine Lst.alloc ?_ _)); done)); (first | exact hr0 | exact hr0.alloc _ | exact (hr0.alloc _).alloc _); rintro e w1 ⟨⟨d2, hd2, rfl⟩, hr1, ho1⟩; have hN1 : Only [rb] W w1 := (by first | exact hN0.trans ho1 | exact (hN0.alloc _).trans ho1 | exact ((hN0.alloc _).alloc _).trans ho1); have hl1 := hr1.lt; have hsz1 := hN1.size; obtain ⟨dn, hdn, rfl⟩ : ∃ dn : Nat, dn ≤ 3 ∧ d2 = dn := (by simp at hd2; exact ⟨d2.toNat, by omega, by omega⟩))
      | (go_at_call 61; (refine (l4Terms_any dn s _ sf rb (0 + 1 + 1) _ (by omega) (by omega) hfew (by exact hrd0.only hN1 hnr) hnr ?_).mono ?_); (first | exact hr1 | exact hr1.alloc _ | exact (hr1.alloc _).alloc _); rintro e w2 ⟨⟨ts, rv, fp, hsz, hln, rfl, hown, hfr⟩, hr2, ho2⟩; have hN2 : Only [rb] W w2 := (by first | exact hN1.trans ho2 | exact (hN1.alloc _).trans ho2 | exact ((hN1.alloc _).alloc _).trans ho2); have hl2 := hr2.lt; have hsz2 := hN2.size))
  have hr2' : Rdr w2 rb 100 := hr2.mono (by omega)
  have hzW := hB0.size
  have hw1 := hN1.size
  have ho2s := ho2.size
  have hw2 := hN2.size
  have hBw : Below w.heap.size w w2 := hB0.trans (hN2.toBelow hB0.size (fun b hb => by simp at hb; omega))
  have x2 := hN2.cellk x0 (by omega)
  have hrd2 := hrd0.only hN2 hnr
  clear hr1 hr2 hN0 hN1 ho1 ho2
  go_wp2_with fail
  refine (pick_any rb 100 16 _ (by omega) (by omega) (by omega) hr2').mono ?_
  rintro e w3 ⟨⟨m, hm, rfl⟩, hr3, ho3⟩
  have hw3 := ho3.size
  have hB3 : Below w.heap.size w w3 := hBw.trans (ho3.toBelow hBw.size (fun b hb => by simp at hb; omega))
  have hw12 : w1.heap.size ≤ w2.heap.size := ho2s
  replace hown := hown.only ho3 (by omega) (hfr.notin (by omega))
  replace hfr := hfr.only ho3 (by omega)
  replace x2 := ho3.cellk x2 (by omega)
  replace hrd2 := hrd2.only ho3 hnr
  by_cases hm0 : m = 0
  · subst hm0
    go_wp2_with fail
    refine (l4Some_any s _ sf rb (100 + 1) _ (by omega) hfew (by exact hrd2) hnr hr3).mono ?_
    rintro e w4 ⟨⟨t, kv, fo, hszt, rfl, hnm, hownt, hfo⟩, hr4, ho4⟩
    obtain ⟨ff, hrt, hft, _⟩ := hownt.fresh hfo
    obtain ⟨ka, kc, rfl, hk1, hk2⟩ := tms_form hrt
    have hw4 := ho4.size
    have hB4 : Below w.heap.size w w4 := hB3.trans (ho4.toBelow hB3.size (fun b hb => by simp at hb; omega))
    have hba4 := below_alloc w4 (.cells #[.string t.name, .slice ka t.kids.length kc, .string ⟨#[]⟩, .slice none 0 0] 38)
    have hown5 := (hown.only ho4 (by omega) (hfr.notin (by omega))).below hba4
    have hfr5 := (hfr.only ho4 (by omega)).below hba4
    have hft5 := hft.below hba4
    have hrt5 := hrt.below hba4
    go_wp2_with (at_builtin; refine wpList_app slTerm rfl _ _ rfl w1.heap.size _ _ _ rfl hown5 ⟨w4.heap.size, 0, none⟩ 2 2 [t.cd, (Tm.mk ⟨#[]⟩ []).cd] [.string t.name, .slice ka t.kids.length kc, .string ⟨#[]⟩, .slice none 0 0] (ff ++ []) rfl rfl ?rd ?k ?cells ?na ?bytes ?len ?base ?next)
    case rd => simpa using (Tm.rdvs hnm hrt5).app (Tm.zero_rd _)
    case k => simp [Tm.cd_len]
    case cells => exact cells_new _ _ _
    case na => rw [List.append_nil]; exact hown.away (Nat.le_refl _) hft5
    case bytes => rw [List.length_map]; omega
    case len => rw [List.length_map]; omega
    case base => simp; omega
    case next =>
      intro v' w5 hown6 hg hv' hs6
      obtain ⟨fp', hrv⟩ := hown6.rd'
      have hB5 := grown_below (hB4.alloc hB4.size (.cells #[.string t.name, .slice ka t.kids.length kc, .string ⟨#[]⟩, .slice none 0 0] 38)) hg (by simp; omega) (fun q hq => by have := (hown.block hq).1; omega)
      go_wp2_with fail
      go_ret
      refine ⟨⟨ts ++ [t, .mk ⟨#[]⟩ []], _, fp', ?_, rfl, ?_⟩, hB5⟩
      · rw [Tm.sizes_append]; simp only [Tm.sizes, Tm.size]; omega
      · rw [List.map_append]; exact hrv
  · obtain ⟨fp', hrv⟩ := hown.rd'
    go_wp2_with fail
    go_ret
    exact ⟨⟨ts, _, fp', by omega, rfl, hrv⟩, hB3⟩
end Go.Proofs.Ytlcfophhjflpdaa
