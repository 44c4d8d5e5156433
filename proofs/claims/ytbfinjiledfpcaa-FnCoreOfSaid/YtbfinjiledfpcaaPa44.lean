/- Parts of the proof: SameD LawCoreOfL. -/
import Derived.Test.YtbfinjiledfpcaaPa13
import Derived.BigQuiet
import Derived.Test.YtbfinjiledfpcaaPa43
import Derived.Test.YtbfinjiledfpcaaPa31
section
namespace Go.Proofs.Ytbfinjiledfpcaa
open Go Go.RowKit
set_option linter.unusedVariables false
set_option linter.unusedSimpArgs false
set_option maxRecDepth 100000
set_option maxHeartbeats 16000000
theorem sameFm_n (n : Nat) : ∀ (x y : Fm) (vs us : List Value) (f f' : List Nat) (w : World), ndV x.cd ≤ n → RdVs w x.cd vs f → RdVs w y.cd us f' → Calls Try.prog 8 #[.agg vs.toArray, .agg us.toArray] w fun e w' => e = .returned (.bool (eqV x.cd y.cd)) ∧ Below w.heap.size w w' := by
 induction n with
 | zero => intro x y vs us f f' w hn; have h : 0 < ndV x.cd := (by rw [Fm.cd_eq]; simp [ndV, ndC]; try omega); omega
 | succ n ih =>
  intro x y vs us f f' w hn hv hx
  have HK : Hid (∀ k ∈ x.K, ndV k.cd ≤ n) := fun k hk => by have := Fm.kid_nd hk; omega
  have IH := zdH ih; clear ih; obtain ⟨a3, c3, f3, a5, c5, f5, a6, c6, f6, a7, c7, f7, a11, c11, f11, rfl, _, m0, m1, m2, m3, m4, m5, m6, m7, m8, m9⟩ := Fm.open hv; obtain ⟨a3', c3', f3', a5', c5', f5', a6', c6', f6', a7', c7', f7', a11', c11', f11', rfl, _, m0', m1', m2', m3', m4', m5', m6', m7', m8', m9'⟩ := Fm.open hx; go_enter Try.func8, Try.ntmps8
  cases tk1 : (x.kind == y.kind)
  ·have HF := zdH (Fm.eqv_kind tk1)
   go_wp2_with fail; go_ret; exact ⟨retB HF.out.symm, (((zdT _ _).alloc (zdI _) _).alloc (by simp) _)⟩
  have HT_kind := zdH tk1
  cases tk2 : (x.L.no == y.L.no)
  ·have HF := zdH (Fm.eqv_lit_no tk2)
   go_wp2_with fail; go_ret; exact ⟨retB HF.out.symm, (((zdT _ _).alloc (zdI _) _).alloc (by simp) _)⟩
  have HT_lit_no := zdH tk2; go_wp2_with fail; refine (sameAtm_x x.L.M y.L.M _ _ _ _ _ (by exact (Atm.close m1 m2 m3 m4 m5 m6 m7 m8).below (((zdT _ _).alloc (zdI _) _).alloc (by simp) _)) (by exact (Atm.close m1' m2' m3' m4' m5' m6' m7' m8').below (((zdT _ _).alloc (zdI _) _).alloc (by simp) _))).mono ?_; rintro e w1 ⟨rfl, hb1⟩; obtain ⟨hx1, hy1, hz1, hB1⟩ := box2 (w := w) (wr := w1) (cs := (yTa x a3 c3 a5 c5 a6 c6 a7 c7 a11 c11)) (ds := (yTa y a3' c3' a5' c5' a6' c6' a7' c7' a11' c11')) (T := 37) (U := 37) (zs hb1 (by simp))
  cases hq1 : eqV x.L.M.cd y.L.M.cd
  ·have HF := zdH (Fm.eqv_lit_atom hq1)
   clear hq1; go_wp2_with fail; go_ret; exact ⟨retB HF.out.symm, hB1⟩
  have HT_lit_atom := zdH hq1; clear hq1; go_wp2_with fail; refine ((equalFm_f x.K y.K (fun k hk y' vs us f f' w => IH.out k y' vs us f f' w (HK.out k hk))) _ _ _ _ _ (by exact m9.below hB1) (by exact m9'.below hB1)).mono ?_; rintro e w2 ⟨rfl, hb2⟩; have hB2 := hB1.trans (hb2.mono (by omega)); have hx2 := zf hx1 (by omega) hb2; have hy2 := zf hy1 (by omega) hb2; have hz2 := zdS hz1 hb2.size; clear hx1 hy1
  cases hq2 : eqR (x.K.map Fm.cd) (y.K.map Fm.cd)
  ·have HF := zdH (Fm.eqv_kids hq2)
   clear hq2; go_wp2_with fail; go_ret; exact ⟨retB HF.out.symm, hB2⟩
  have HT_kids := zdH hq2; clear hq2; go_wp2_with fail; go_ret
  exact ⟨retB (by rw [Fm.eqv, HT_kind.out, HT_lit_no.out, HT_lit_atom.out, HT_kids.out]; try rfl), hB2⟩
theorem sameFm_x (x y : Fm) (vs us : List Value) (f f' : List Nat) (w : World) (hv : RdVs w x.cd vs f) (hx : RdVs w y.cd us f') :
  Calls Try.prog 8 #[.agg vs.toArray, .agg us.toArray] w fun e w' => e = .returned (.bool (eqV x.cd y.cd)) ∧ Below w.heap.size w w' := sameFm_n _ x y vs us f f' w (zdI _) hv hx
theorem core_at {fs : List Fm} {ns : List Int} {i j : Nat} (hi : i < ns.length) (hj : ns[i] = (j : Int)) (hjl : j < fs.length) :
  ∃ h : (zH fs (ns.take i)).length < (zH fs ns).length, (zH fs ns)[(zH fs (ns.take i)).length] = fs[j] := by
 have h1 := zan fs ns i hi; rw [zav hj hjl] at h1
 have h2 : zH fs ns = zH fs (ns.take (i + 1)) ++ zH fs (ns.drop (i + 1)) := by
  unfold zH; rw [← List.flatMap_append, List.take_append_drop]
 rw [h1, List.append_assoc] at h2
 have e2 : (zH fs ns)[(zH fs (ns.take i)).length]? = some fs[j] := by
  rw [h2, List.getElem?_append_right (zdI _), Nat.sub_self]; rfl
 exact List.getElem?_eq_some_iff.1 e2
theorem core_next {fs : List Fm} {ns : List Int} {i j : Nat} (hi : i < ns.length) (hj : ns[i] = (j : Int)) (hjl : j < fs.length) :
  (zH fs (ns.take (i + 1))).length = (zH fs (ns.take i)).length + 1 := by
 rw [zan fs ns i hi, zav hj hjl]; simp
theorem core_skip {fs : List Fm} {ns : List Int} {i : Nat} (hi : i < ns.length) (h : ¬ (0 ≤ ns[i] ∧ ns[i] < fs.length)) :
  (zH fs (ns.take (i + 1))).length = (zH fs (ns.take i)).length := by
 rw [zan fs ns i hi, zaY h]; simp
theorem zcd (v : Value) (w : World) (hv : Byts w v) :
  Calls Try.prog 3 #[v] w fun e w' => e = .returned (.bool true) ∧ Below w.heap.size w w' := by
 have hv0 := hv; obtain ⟨a9, n, cap, rfl, hn1, hn2, _⟩ := hv
 by_cases hlen : n ≤ 1048576
 rotate_left
 ·have hlb0 : decide ((1048576 : Int) < (n : Int)) = true := decide_eq_true (by omega)
  go_enter Try.func3, Try.ntmps3; go_wp2_with fail; go_ret; exact ⟨rfl, zdT _ _⟩
 have hlb0 : decide ((1048576 : Int) < (n : Int)) = false := decide_eq_false (by omega)
 go_enter Try.func3, Try.ntmps3; go_wp2_with fail; refine (zbG _ _ hv0).mono ?_; rintro e w1 ⟨⟨fs, ns, fa, fc, na, nc, ff, gn, hfl, hnl, hwt, rfl, hrf, hrn⟩, hB⟩; obtain ⟨T, hT⟩ : ∃ T, T = zH fs ns := ⟨_, rfl⟩
 have hTl : T.length ≤ 4 := by rw [hT]; have := zaQ fs ns; omega
 have HT := zdH hT; clear hT; go_wp2_with fail; refine (zdr fs ns _ _ _ _ _ (by omega) (by omega) (by exact hrf) (by exact hrn)).mono ?_; rintro e w2 ⟨tv, tf, rfl, htr, _, hb2⟩; rw [← HT.out] at htr; obtain ⟨ta, tc, rfl, _, _⟩ := zc htr; replace hrf := hrf.below hb2; replace hrn := hrn.below hb2; replace hB := hB.trans (hb2.mono hB.size); clear hb2; go_wp2_with fail; refine (zcG fs ns _ _ _ _ _ (by omega) (by omega) (by exact hrf) (by exact hrn)).mono ?_; rintro e w3 ⟨uv, uf, rfl, hur, _, hb3⟩; rw [← HT.out] at hur; obtain ⟨ua, uc, rfl, _, _⟩ := zc hur; clear hur; replace hrf := hrf.below hb3; replace hrn := hrn.below hb3; replace htr := htr.below hb3; replace hB := hB.trans (hb3.mono hB.size); clear hb3; have hw3 := hB.size; go_wp2_with fail
 go_loopw [7, 8] (fun kv iv wr => ∃ i k : Nat, i ≤ ns.length ∧ iv = .int .i64 i ∧ kv = .int .i64 k ∧ Hid (k = (zH fs (ns.take i)).length) ∧ Below w3.heap.size w3 wr) (fun _ iv _ => ns.length - (intOf iv).toNat)
 case atStart => exact ⟨0, 0, zdR _, rfl, rfl, zdH (by simp [zH]), zdT _ _⟩
 case round =>
  obtain ⟨i, k, hi, rfl, rfl, HM, hb⟩ := hrel; have hz := hb.size
  by_cases hlt : i < ns.length
  ·obtain ⟨b2, o2, rfl, hbs2, _⟩ := zo hrn (by omega)
   obtain ⟨q0, hri⟩ := zS (hrn.below hb) hlt; have hid : decide ((i : Int) < (ns.length : Int)) = true := decide_eq_true (by omega)
   by_cases hin : 0 ≤ ns[i] ∧ ns[i] < (fs.length : Int)
   ·obtain ⟨j, hj⟩ := Int.eq_ofNat_of_zero_le hin.1
    have hjl : j < fs.length := by omega
    obtain ⟨hkT0, hE0⟩ := core_at hlt hj hjl
    have hkT : k < T.length := by have := HM.out; rw [HT.out]; omega
    have HE : Hid (eqV T[k].cd fs[j].cd = true) := zdH (by
     rw [zaz]
     have e : T[k] = fs[j] := by rw [← hE0]; simp only [HM.out, HT.out]
     rw [e])
    have HN : Hid (k + 1 = (zH fs (ns.take (i + 1))).length) := zdH (by rw [core_next hlt hj hjl, HM.out]); rw [hj] at q0 hri; clear hin hj hE0 hkT0; have h1 : decide ((0 : Int) ≤ (j : Int)) = true := decide_eq_true (by omega); have h2 : decide ((j : Int) < (fs.length : Int)) = true := decide_eq_true (by omega); obtain ⟨b1, o1, rfl, hbs1, _⟩ := zo htr (by omega); obtain ⟨b3, o3, rfl, hbs3, _⟩ := zo hrf (by omega); obtain ⟨xa3, xc3, xf3, xa5, xc5, xf5, xa6, xc6, xf6, xa7, xc7, xf7, xa11, xc11, xf11, xd0, xd1, xd2, xd3, xd4, xd5, xd6, xd7, xd8, xd9, xd10, xd11, xm0, xm1, xm2, xm3, xm4, xm5, xm6, xm7, xm8, xm9, _⟩ := Fm.at (htr.below hb) hkT; obtain ⟨ya3, yc3, yf3, ya5, yc5, yf5, ya6, yc6, yf6, ya7, yc7, yf7, ya11, yc11, yf11, yd0, yd1, yd2, yd3, yd4, yd5, yd6, yd7, yd8, yd9, yd10, yd11, ym0, ym1, ym2, ym3, ym4, ym5, ym6, ym7, ym8, ym9, _⟩ := Fm.at (hrf.below hb) hjl; go_wp2_with fail; have xq0 := cell_regrown xd0; have xq1 := cell_regrown xd1; have xq2 := cell_regrown xd2; have xq3 := cell_regrown xd3; have xq4 := cell_regrown xd4; have xq5 := cell_regrown xd5; have xq6 := cell_regrown xd6; have xq7 := cell_regrown xd7; have xq8 := cell_regrown xd8; have xq9 := cell_regrown xd9; have xq10 := cell_regrown xd10; have xq11 := cell_regrown xd11; have yq0 := cell_regrown yd0; have yq1 := cell_regrown yd1; have yq2 := cell_regrown yd2; have yq3 := cell_regrown yd3; have yq4 := cell_regrown yd4; have yq5 := cell_regrown yd5; have yq6 := cell_regrown yd6; have yq7 := cell_regrown yd7; have yq8 := cell_regrown yd8; have yq9 := cell_regrown yd9; have yq10 := cell_regrown yd10; have yq11 := cell_regrown yd11; have qn0 := cell_regrown q0; refine wp_region_quiet_below (by kernel_rfl) (by kernel_rfl) ?_
    repeat (quiet_step (refine zdL (sameFm_x T[k] fs[j] _ _ _ _ _ ((Fm.close xm0 xm1 xm2 xm3 xm4 xm5 xm6 xm7 xm8 xm9).below (below_regrown _ _ _)) ((Fm.close ym0 ym1 ym2 ym3 ym4 ym5 ym6 ym7 ym8 ym9).below (below_regrown _ _ _)))))
    refine wpQuiet_nil ?_; intro wq9 hq9; obtain ⟨⟨dq, osq⟩, hq9⟩ := hq9; have hb9 : Below wr.heap.size wr wq9 := hq9 ▸ below_regrown wr dq osq; clear hq9; clear qn0 xq0 xq1 xq2 xq3 xq4 xq5 xq6 xq7 xq8 xq9 xq10 xq11 yq0 yq1 yq2 yq3 yq4 yq5 yq6 yq7 yq8 yq9 yq10 yq11; rw [HE.out]; go_wp2_with fail; go_roundw
    case rel => exact ⟨i + 1, k + 1, by omega, by go_num, by go_num, HN, hb.trans (hb9.mono hz)⟩
    case measure => simp [intOf]; omega
   ·have HN : Hid (k = (zH fs (ns.take (i + 1))).length) := zdH (by rw [core_skip hlt hin, HM.out])
    by_cases h0 : 0 ≤ ns[i]
    ·have h1 : decide ((0 : Int) ≤ ns[i]) = true := decide_eq_true h0
     have h2 : decide (ns[i] < (fs.length : Int)) = false := decide_eq_false (fun h => hin ⟨h0, h⟩); go_wp2_with fail; go_roundw
     case rel => exact ⟨i + 1, k, by omega, by go_num, rfl, HN, hb⟩
     case measure => simp [intOf]; omega
    ·have h1 : decide ((0 : Int) ≤ ns[i]) = false := decide_eq_false h0
     go_wp2_with fail; go_roundw
     case rel => exact ⟨i + 1, k, by omega, by go_num, rfl, HN, hb⟩
     case measure => simp [intOf]; omega
  ·have hid : decide ((i : Int) < (ns.length : Int)) = false := decide_eq_false (by omega)
   have hmT : Hid (k = T.length) := zdH (by rw [HM.out, HT.out, zdK (by omega)])
   have hmd : ((k : Int) == (T.length : Int)) = true := by rw [hmT.out]; simp
   go_wp2_with fail; go_ret; exact ⟨rfl, hB.trans (hb.mono hw3)⟩
end Go.Proofs.Ytbfinjiledfpcaa
end
